/- Texts of the framework, or of the plain law, one behind another. -/
import Derived.Test.YtakjeajlmlmkeaaGreatFr1
import Derived.Maps.AppendAt
import Derived.MapKept
import Derived.Lib.AppendZerosOnto
import Derived.Deep.AppendSrc
import Derived.Laws.CopyRow
import Derived.Laws.IdiomCopy
/- The evaluator is right, part 8: appends and maps. -/
section
set_option linter.all false
namespace Go.Av
open Go.MapKept
section
variable {P:Program} {N:Nat} {C:Ctx} {h:Hp} {ρ:Rho} {F:Fr} {M:Mm} {g:Nat} {a:Act} {w:World} {Γ:Tys} {mg:Mm} {o:Oper}
theorem zfG (base:Nat) (t ty e:TypeId) (ht:P.underlying t=some (.slice e)) {E:TyD} (hE:TyOk P e E) {v:Value} {n:Nat} {xs:List Value} (hown:w.ownsRow base e E.size v n xs) (ad:Option Addr) (c:Nat) :
 (Builtin.append_ #[t,t] ty #[v,.slice ad 0 c]).run P w = .ok v w:=by
 obtain ⟨i,h1,h2,_,_⟩:=hE.info
 rcases hown.2 with ⟨rfl,rfl⟩|⟨g,cap,cur,rfl,_,_,hnc,_⟩ <;> cases ad <;>
  simp [Builtin.append_,run_underlying ht,sizeOf,typeInfo,Builtin.lenOf,Builtin.firstCells,storeCells,loadCells,loadCellsFrom, *]
theorem zei {a:Act} {o:Oper} {x y:Operand} {t:TypeId} (ho:o.op = .call { callee:=.builtin .append,args:=#[x,y],argTypes:=#[t,t] }) {v:Value} {w w':World}
 (hr:(Builtin.append_ #[t,t] o.type #[a.eval x,a.eval y]).run P w = .ok v w'):(execOp a.eval o).run P w = .ok (.value v) w':=by
 unfold execOp
 simp only [ho,resolve,invoke,builtin,Sem.run_bind,Sem.run_pure,Result.andThen_ok,List.map_toArray,List.map_cons,List.map_nil,hr]
theorem zkp (hΓ:zbb P Γ) (I:InvH N C h ρ F M g a w) {t:TypeId} {x y:Operand} (ho:o.op = .call { callee:=.builtin .append,args:=#[x,y],argTypes:=#[t,t] }) {T:TyD} (hT:tyOf Γ t=some T) {e:TypeId} (hd:T.d = .slice e)
 {E:TyD} (hE:tyOf Γ e=some E) (hpos:0<E.size) (hs:Rel h ρ .nilS (a.eval x)) {s:AV} (hx:Rel h ρ s (a.eval y)) {n2:Nat} {e2:Nat→List AV} {rd:List Nat} {c:Option Prop} (hro:asRo mg s=some (E.size,n2,e2,rd,c))
 (hm:∀ id,id∈rd→M id=mg id) {d:Nat} (hdn:M d=none) (hc:∀ q,andO (some (room n2 E.bytes)) c=some q→q) :
 Good P N C h ρ F M g a o w ⟨.buf d n2,d::rd,[(d,.buf e E.size n2 e2)],andO (some (room n2 E.bytes)) c,none⟩:=by
 have hroom:room n2 E.bytes:=by cases c <;> first|exact hc _ rfl|exact (hc _ rfl).1
 have hc':∀ q,c=some q→q:=by rintro q rfl;exact (hc _ rfl).2
 have hEy:=hΓ e E hE
 have hu:=(hΓ t T hT).za4 hd
 obtain ⟨i,h1,h2,h3,h4⟩:=hEy.info
 obtain ⟨ad,cap,news,hv,hl,hel,hone,hnews,hrel,hnil⟩:=zjT I hro hm hc' hx
 have hn:a.eval x = .slice none 0 0:=by generalize a.eval x=z at hs;cases hs;rfl
 have hρ:=I.dom d hdn
 -- the state behind the append
 have fin:∀ (v':Value) (w':World),(Builtin.append_ #[t,t] o.type #[a.eval x,a.eval y]).run P w = .ok v' w'→w'.ownsRow w.heap.size e E.size v' n2 news→w.grownBy w' none →
  Good P N C h ρ F M g a o w ⟨.buf d n2,d::rd,[(d,.buf e E.size n2 e2)],andO (some (room n2 E.bytes)) c,none⟩:=by
  intro v' w' hrun hown hg
  have hown0:w'.ownsRow 0 e E.size v' n2 news:=⟨hown.1,by
   rcases hown.2 with h5|⟨gg,cp,cur,k1,_,k3,k4⟩
   · exact .inl h5
   · exact .inr ⟨gg,cp,cur,k1,Nat.zero_le _,k3,k4⟩⟩
  have hblk:∀ b,v'.ownBlock=some b→w.heap.size≤b∧b<w'.heap.size:=fun b hb=>hown.lt b hb
  have hle:∀ j l,ρ j=some l→∃ l',upd ρ d (some (.sl n2 E.size v')) j=some l'∧l.le l':=by
   intro j l hj
   have hne:j≠d:=by rintro rfl;rw [hρ] at hj;cases hj
   exact ⟨l,by rw [zae _ _ hne];exact hj,.inl rfl⟩
  have I':InvH N C h (upd ρ d (some (.sl n2 E.size v'))) F (upd M d (some (.buf e E.size n2 e2))) g a w':=by
   refine I.step (S:=fun j=>j=d) hg.os hg.tape hg.output hg.size (fun k hk _=>hg.block k hk (by simp)) (fun j hj=>zae _ _ hj) hle (fun _ _ q=>q) (fun _ _ q=>.inl q) (fun j hj=>zae _ _ hj) ?_ ?_ ?_ ?_
   · rintro j rfl hM;rw [zah] at hM;cases hM
   · rintro j z rfl hM;rw [zah] at hM;cases hM
     exact ⟨v',news,zah _ _ _,hown0,hel,hone,hrel⟩
   · rintro j l b rfl k1 k2
     rw [zah] at k1;cases k1
     obtain ⟨q1,q2⟩:=hblk b k2
     refine .inr ⟨q1,q2,?_⟩
     cases hb:h b with
     | none=>rfl
     | some o'=>have:=I.hlt hb;omega
   · rintro j j' l l' b rfl rfl _ _ _ _;rfl
  have hcell:v'.oneCell'=true:=by
   rcases hown.2 with ⟨rfl,_⟩|⟨_,_,_,rfl,_⟩ <;> rfl
  exact ⟨v',w',h,_,.inl (zei ho hrun),I',.buf _ _ _ _ _ _ _ (zah _ _ _) (Nat.le_refl _) hcell (fun _=>rfl)⟩
 by_cases hz:n2=0
 · subst hz
   have hnn:news=[]:=List.eq_nil_of_length_eq_zero (by rw [hl];simp)
   subst hnn
   refine fin (.slice none 0 0) w ?_ (World.ownsRow_nil _ _ _ _) ⟨rfl,rfl,rfl,Nat.le_refl _,fun _ _ _=>rfl⟩
   rw [hn,hv]
   exact zfG w.heap.size t o.type e hu hEy (World.ownsRow_nil w _ _ _) ad cap
 · obtain ⟨ad',rfl⟩:∃ ad',ad=some ad':=by cases ad with|none=>exact absurd (hnil rfl) hz|some q=>exact ⟨q,rfl⟩
   have hnews':∀ j u,news[j]? = some u→w.cell? (ad'.add j)=some u:=fun j u hj=>by obtain ⟨a2,q1,q2⟩:=hnews j u hj;cases q1;exact q2
   obtain ⟨v',w',k1,k2,k3,_⟩:=run_append_own (P:=P) w w.heap.size t o.type e i E.zeroV E.size E.bytes hu h1 h4 h2 h3 (by rw [zbd hEy];simpa using hEy.len) hpos (.slice none 0 0) 0 [] (World.ownsRow_nil w _ _ _)
    ad' n2 cap news hl hnews' hone (by rw [Nat.zero_add];exact zgg hroom) (by rw [Nat.zero_add];exact hroom.1) (Nat.le_refl _)
   rw [Nat.zero_add,List.nil_append] at k2
   exact fin v' w' (by rw [hn,hv];exact k1) k2 k3
theorem zkq (hΓ:zbb P Γ) (I:InvH N C h ρ F M g a w) {t:TypeId} {x y:Operand} (ho:o.op = .call { callee:=.builtin .append,args:=#[x,y],argTypes:=#[t,t] }) {T:TyD} (hT:tyOf Γ t=some T) {e:TypeId} (hd:T.d = .slice e)
 {E:TyD} (hE:tyOf Γ e=some E) (hpos:0<E.size) {id n n' sz:Nat} {e1:Nat→List AV} (hs:Rel h ρ (.buf id n) (a.eval x)) (hM:M id=some (.buf e sz n' e1)) (hsz:sz=E.size) {s:AV} (hx:Rel h ρ s (a.eval y)) {n2:Nat} {e2:Nat→List AV} {rd:List Nat} {c:Option Prop}
 (hro:asRo mg s=some (E.size,n2,e2,rd,c)) (hm:∀ j,j∈rd→M j=mg j) (hc:∀ q,andO (some (n=n'∧room (n'+n2) E.bytes)) c=some q→q) :
 Good P N C h ρ F M g a o w ⟨.buf id (n'+n2),id::rd,[(id,.buf e sz (n'+n2) (fun k=>if k<n' then e1 k else e2 (k - n')))],andO (some (n=n'∧room (n'+n2) E.bytes)) c,none⟩:=by
 subst hsz
 obtain ⟨rfl,hroom⟩:n=n'∧room (n'+n2) E.bytes:=by cases c <;> first|exact hc _ rfl|exact (hc _ rfl).1
 have hc':∀ q,c=some q→q:=by rintro q rfl;exact (hc _ rfl).2
 have hEy:=hΓ e E hE
 have hu:=(hΓ t T hT).za4 hd
 obtain ⟨i,h1,h2,h3,h4⟩:=hEy.info
 obtain ⟨ad,cap,news,hv,hl,hel,hone,hnews,hrel,hnil⟩:=zjT I hro hm hc' hx
 obtain ⟨v0,us,f1,f2,f3,f5,f4⟩:=I.blk id _ hM
 have hn:a.eval x=v0:=by
  generalize a.eval x=z at hs
  cases hs with
  | buf _ _ _ _ _ _ _ hb hle k1 he=>rw [f1] at hb;cases hb;exact he rfl
 have hlen:us.length=n * E.size:=f2.1
 have fin:∀ (v':Value) (w':World),(Builtin.append_ #[t,t] o.type #[a.eval x,a.eval y]).run P w = .ok v' w'→w'.ownsRow 0 e E.size v' (n+n2) (us++news)→w.grownBy w' v0.ownBlock →
  (v'.ownBlock=v0.ownBlock∨v'.ownBlock=some w.heap.size)→((n=n+n2∧v0=v')∨n<n+n2) →
  Good P N C h ρ F M g a o w ⟨.buf id (n+n2),id::rd,[(id,.buf e E.size (n+n2) (fun k=>if k<n then e1 k else e2 (k - n)))],andO (some (n=n∧room (n+n2) E.bytes)) c,none⟩:=by
  intro v' w' hrun hown hg hb hle
  have hnb:∀ b,v'.ownBlock=some b→v0.ownBlock=some b∨(w.heap.size≤b∧b<w'.heap.size):=by
   intro b hb'
   rcases hb with q|q
   · exact .inl (q▸hb')
   · rw [q] at hb';cases hb';exact .inr ⟨Nat.le_refl _,(hown.lt _ q).2⟩
  have hcell:v'.oneCell'=true:=by
   rcases hown.2 with ⟨rfl,_⟩|⟨_,_,_,rfl,_⟩ <;> rfl
  refine ⟨v',w',h,_,.inl (zei ho hrun),I.znG f1 _ hle hg hnb ?_,.buf _ _ _ _ _ _ _ (zah _ _ _) (Nat.le_refl _) hcell (fun _=>rfl)⟩
  refine ⟨v',us++news,zah _ _ _,hown,fun k hk=>?_,fun u hu'=>?_,fun k j cc u hk hcc hu'=>?_⟩
  · show (if k<n then e1 k else e2 (k - n)).length=E.size
    by_cases hkn:k<n
    · rw [if_pos hkn];exact f3 k hkn
    · rw [if_neg hkn];exact hel _ (by omega)
  · rcases List.mem_append.1 hu' with q|q
    · exact f5 u q
    · exact hone u q
  · replace hcc:(if k<n then e1 k else e2 (k - n))[j]? = some cc:=hcc
    by_cases hkn:k<n
    · rw [if_pos hkn] at hcc
      have hj:j<E.size:=by rw [← f3 k hkn];exact (List.getElem?_eq_some_iff.1 hcc).1
      have:k * E.size+j<us.length:=by
       rw [hlen]
       calc k * E.size+j<k * E.size+E.size:=by omega
        _=(k+1) * E.size:=by rw [Nat.add_mul,Nat.one_mul]
        _≤n * E.size:=Nat.mul_le_mul_right _ hkn
      rw [List.getElem?_append_left this] at hu'
      exact f4 k j cc u hkn hcc hu'
    · rw [if_neg hkn] at hcc
      have hge:n * E.size≤k * E.size:=Nat.mul_le_mul_right _ (by omega)
      rw [List.getElem?_append_right (by rw [hlen];omega),hlen] at hu'
      have:k * E.size+j - n * E.size=(k - n) * E.size+j:=by rw [Nat.sub_mul];omega
      rw [this] at hu'
      exact hrel (k - n) j cc u (by omega) hcc hu'
 by_cases hz:n2=0
 · subst hz
   have hnn:news=[]:=List.eq_nil_of_length_eq_zero (by rw [hl];simp)
   subst hnn
   refine fin v0 w ?_ (by simpa using f2) ⟨rfl,rfl,rfl,Nat.le_refl _,fun _ _ _=>rfl⟩ (.inl rfl) (.inl ⟨rfl,rfl⟩)
   rw [hn,hv]
   exact zfG 0 t o.type e hu hEy f2 ad cap
 · obtain ⟨ad',rfl⟩:∃ ad',ad=some ad':=by cases ad with|none=>exact absurd (hnil rfl) hz|some q=>exact ⟨q,rfl⟩
   have hnews':∀ j u,news[j]? = some u→w.cell? (ad'.add j)=some u:=fun j u hj=>by obtain ⟨a2,q1,q2⟩:=hnews j u hj;cases q1;exact q2
   obtain ⟨v',w',k1,k2,k3,_,k5⟩:=run_append_own_at (P:=P) w 0 t o.type e i E.zeroV E.size E.bytes hu h1 h4 h2 h3 (by rw [zbd hEy];simpa using hEy.len) hpos v0 n us f2
    ad' n2 cap news hl hnews' hone (zgg hroom) hroom.1 (Nat.zero_le _)
   exact fin v' w' (by rw [hn,hv];exact k1) k2 k3 k5 (.inr (by omega))
theorem zcy (k:Int):IsKey (.int .i64) (.int .i64 k):=rfl
theorem find_spec {es:List MapEntry} {ks:List Int} (hl:ks.length=es.length) (hk:∀ (i:Nat) (k:Int) (x:MapEntry),ks[i]? = some k→es[i]? = some x→x.key = .int .i64 k) (q:Int) :
 (q ∉ ks∧Instr.findNow (.int .i64) (.int .i64 q) es 0=some none)∨∃ j x,ks[j]? = some q∧es[j]? = some x∧Instr.findNow (.int .i64) (.int .i64 q) es 0=some (some (j,x.val)):=by
 have hkeys:∀ x∈es,IsKey (.int .i64) x.key:=by
  intro x hx
  obtain ⟨i,hi,rfl⟩:=List.getElem_of_mem hx
  rw [hk i ks[i] es[i] (List.getElem?_eq_getElem (by omega)) (List.getElem?_eq_getElem hi)]
  rfl
 rcases findNow_spec (zcy q) es 0 hkeys with ⟨h1,h2⟩|⟨j,x,h1,h2,h3⟩
 · refine .inl ⟨fun hm=>?_,h1⟩
   obtain ⟨i,hi,hq⟩:=List.getElem_of_mem hm
   have:=hk i ks[i] (es[i]'(by omega)) (List.getElem?_eq_getElem hi) (List.getElem?_eq_getElem (by omega))
   exact h2 _ (List.getElem_mem _) (by rw [this,hq])
 · have hj:j<es.length:=(List.getElem?_eq_some_iff.1 h2).1
   have h4:=hk j ks[j] x (List.getElem?_eq_getElem (by omega)) h2
   rw [h3] at h4
   have h5:q=ks[j]:=by cases h4;rfl
   exact .inr ⟨j,x,by rw [h5];exact List.getElem?_eq_getElem _,h2,by simpa using h1⟩
theorem zdd {t kt et:TypeId} (hu:P.underlying t=some (.map kt et)) (hk:P.underlying kt=some (.int .i64)) {E:TyD} (hE:TyOk P et E) {r:Nat} {es:List MapEntry} {clock:Nat} (hb:w.heap[r]? = some (.map es.toArray clock)) (q:Int) (ok:Bool)
 {res:Option (Nat×Value)} (hf:Instr.findNow (.int .i64) (.int .i64 q) es 0=some res) :
 (Instr.lookup t (.map (some r)) (.int .i64 q) ok).run P w = .ok (if ok then .tuple #[(res.map (·.2)).getD E.zeroV,.bool res.isSome] else (res.map (·.2)).getD E.zeroV) w:=by
 have hfk:=run_findKey (P:=P) (w:=w) hk hf
 cases res with
 | none=>
  simp only [Instr.lookup,Sem.run_bind,run_underlying hu,Result.andThen_ok,MapKept.run_getObj_map hb,Sem.run_pure,run_checkKey hk (zcy q),hfk,hE.zeK w]
  cases ok <;> rfl
 | some p=>
  simp only [Instr.lookup,Sem.run_bind,run_underlying hu,Result.andThen_ok,MapKept.run_getObj_map hb,Sem.run_pure,run_checkKey hk (zcy q),hfk]
  cases ok <;> rfl
theorem zhB {h:Hp} {z:Value} {dom:Int→Bool} {e:Int→AV} {es:List MapEntry} {ks:List Int} (hl:ks.length=es.length) (hk:∀ (i:Nat) (k:Int) (x:MapEntry),ks[i]? = some k→es[i]? = some x→x.key = .int .i64 k)
 (hdom:∀ k,dom k=true↔k∈ks) (hz:∀ k,dom k=false→Rel h ρ0 (e k) z) (hc:∀ (i:Nat) (k:Int) (x:MapEntry),ks[i]? = some k→es[i]? = some x→Rel h ρ0 (e k) x.val) (q:Int) :
 ∃ res,Instr.findNow (.int .i64) (.int .i64 q) es 0=some res∧Rel h ρ0 (e q) ((res.map (·.2)).getD z)∧res.isSome=dom q:=by
 rcases find_spec hl hk q with ⟨h1,h2⟩|⟨j,x,h1,h2,h3⟩
 · have hd:dom q=false:=by
    cases hd:dom q with
    | false=>rfl
    | true=>exact absurd ((hdom q).1 hd) h1
   exact ⟨none,h2,hz q hd,by rw [hd];rfl⟩
 · have hd:dom q=true:=(hdom q).2 (List.mem_of_getElem? h1)
   exact ⟨some (j,x.val),h3,hc j q x h1 h2,by rw [hd];rfl⟩
theorem zcd {a:Act} {o:Oper} {x y:Operand} {t:TypeId} {ok:Bool} (ho:o.op = .lookup t x y ok) {v:Value} {w w':World} (hr:(Instr.lookup t (a.eval x) (a.eval y) ok).run P w = .ok v w'):(execOp a.eval o).run P w = .ok (.value v) w':=by
 unfold execOp
 simp only [ho,Sem.run_bind,hr,Result.andThen_ok,Sem.run_pure]
def lkA (ok:Bool) (v:AV) (b:Bool):AV:=match ok with
 | true=>.tup [v,.bool b]
 | false=>v
theorem zmw {h:Hp} {ρ:Rho} {v:AV} {x:Value} (H:Rel h ρ v x) (ok b:Bool):Rel h ρ (lkA ok v b) (if ok then .tuple #[x,.bool b] else x):=by
 cases ok
 · exact H
 · have:=RelL.cons H (RelL.cons (Rel.bool ρ b) (RelL.nil h ρ))
   exact .tup _ _ _ this.1 this.2
theorem zow (hΓ:zbb P Γ) (I:InvH N C h ρ F M g a w) {t:TypeId} {x y:Operand} {ok:Bool} (ho:o.op = .lookup t x y ok) {m k:AV} (hmv:Rel h ρ m (a.eval x)) (hkv:Rel h ρ k (a.eval y)) {r:R} (hr:zky Γ mg t m k ok=some r)
 (hm:∀ id,id∈r.rd→M id=mg id) (hc:∀ q,r.cs=some q→q):Good P N C h ρ F M g a o w r:=by
 unfold zky at hr
 cases hT:tyOf Γ t with
 | none=>simp [hT] at hr
 | some T=>
 simp only [hT] at hr
 cases hd:T.d <;> simp only [hd] at hr <;> (try (cases hr;done))
 rename_i kt et
 cases hK:tyOf Γ kt with
 | none=>simp [hK] at hr
 | some KT=>
 simp only [hK] at hr
 cases hkd:KT.d <;> simp only [hkd] at hr <;> (try (cases hr;done))
 rename_i ik
 cases ik <;> (try simp only [] at hr) <;> (try (cases hr;done))
 cases hE:tyOf Γ et with
 | none=>simp [hE] at hr
 | some E=>
 simp only [hE] at hr
 have hu:=(hΓ t T hT).zgF hd
 have hku:=(hΓ kt KT hK).zel hkd
 have hEy:=hΓ et E hE
 cases k <;> (try simp only [] at hr) <;> (try (cases hr;done))
 rename_i kk q
 cases kk <;> (try simp only [] at hr) <;> (try (cases hr;done))
 generalize hy:a.eval y=yv at hkv
 cases hkv
 generalize hx:a.eval x=xv at hmv
 cases m <;> (try simp only [] at hr) <;> (try (cases hr;done))
 case mp id=>
  cases hg:mg id with
  | none=>simp [hg] at hr
  | some bl=>
   cases bl <;> simp only [hg] at hr <;> (try (cases hr;done))
   case gmap ty sz n dom m e out=>
    cases out with
    | none=>simp at hr
    | some p=>
    obtain ⟨k0,a0⟩:=p
    simp only [] at hr
    cases ok with
    | true=>simp at hr
    | false=>
    simp only [] at hr
    cases hr
    obtain ⟨rfl,hz0⟩:=hc _ rfl
    obtain ⟨b,es,clock,ks,R,e1,e2,e3,e4,e5,e6,e7,e8,e9,e10,e11,e12,e13⟩:=I.blk id _ ((hm id (by simp)).trans hg)
    cases hmv with
    | mp _ _ li b' hb hmb=>
     rw [e1] at hb;cases hb;cases hmb
     rcases find_spec (by rw [e4,e5]) e6 q with ⟨h1,h2⟩|⟨j,x0,h1,h2,h3⟩
     · have hd:dom q=false:=by
        cases hd:dom q with
        | false=>rfl
        | true=>exact absurd ((e9 q).1 hd) h1
       have hrun:=zdd (P:=P) hu hku hEy e2 q false h2
       exact Good.same I (.inl (zcd ho (by rw [hx,hy];exact hrun))) rfl (by rw [hz0];exact (e11 q a0 rfl).2 hd)
     · have hrun:=zdd (P:=P) hu hku hEy e2 q false h3
       exact Good.same I (.inl (zcd ho (by rw [hx,hy];exact hrun))) rfl ((e10 j q x0 h1 h2).1 a0 rfl)
   rename_i z dom e n
   have hr':r=⟨lkA ok (e q) (dom q),[id],[],some (z=E.zeroV),none⟩:=by cases ok <;> (simp only [] at hr;cases hr;rfl)
   subst hr'
   obtain rfl:z=E.zeroV:=hc _ rfl
   obtain ⟨b,es,clock,ks,e1,e2,e3,e4,e5,e6,e7,e8,e9,ez,e10⟩:=I.blk id _ ((hm id (by simp)).trans hg)
   cases hmv with
   | mp _ _ li b' hb hmb=>
    rw [e1] at hb;cases hb;cases hmb
    obtain ⟨res,f1,f2,f3⟩:=zhB (by rw [e4,e5]) e6 e9 ez e10 q
    have hrun:=zdd (P:=P) hu hku hEy e2 q ok f1
    rw [f3] at hrun
    exact Good.same I (.inl (zcd ho (by rw [hx,hy];exact hrun))) rfl (zmw f2.closed ok (dom q))
 case rom z dom e n=>
  have hr':r=R.zcx (lkA ok (e q) (dom q)) (z=E.zeroV):=by cases ok <;> (simp only [] at hr;cases hr;rfl)
  subst hr'
  obtain rfl:z=E.zeroV:=hc _ rfl
  cases hmv with
  | romN _ _ _ _ hdom hz0=>
   have hrun:(Instr.lookup t (.map none) (.int .i64 q) ok).run P w = .ok (if ok then .tuple #[E.zeroV,.bool false] else E.zeroV) w:=by
    have hfk:=run_findKey (P:=P) (w:=w) (k:=.int .i64 q) (l:=[]) hku rfl
    simp only [Instr.lookup,Sem.run_bind,run_underlying hu,Result.andThen_ok,Sem.run_pure,run_checkKey hku (zcy q),hfk,hEy.zeK w]
   exact Good.same I (.inl (zcd ho (by rw [hx,hy];exact hrun))) rfl (by have:=zmw (ρ:=ρ) (hz0 q).closed ok (dom q);rw [hdom q] at this ⊢;exact this)
  | rom _ _ _ _ _ b es clock ks e2 e3 e4 e5 e6 e7 e8 e9 ez e10=>
   obtain ⟨res,f1,f2,f3⟩:=zhB (by rw [e4,e5]) e6 e9 ez e10 q
   have hrun:=zdd (P:=P) hu hku hEy (I.hp _ _ e2) q ok f1
   rw [f3] at hrun
   exact Good.same I (.inl (zcd ho (by rw [hx,hy];exact hrun))) rfl (zmw f2.closed ok (dom q))
 case pin hp0 q0=>
  cases q0 <;> (try simp only [] at hr) <;> (try (cases hr;done))
  rename_i z dom e n
  cases ok with
  | true=>simp at hr
  | false=>
  simp only [] at hr
  cases hr
  obtain rfl:z=E.zeroV:=hc _ rfl
  cases hmv with
  | pin _ _ _ _ hl hv=>
  cases hv with
  | romN _ _ _ _ hdom hz0=>
   have hrun:(Instr.lookup t (.map none) (.int .i64 q) false).run P w = .ok E.zeroV w:=by
    have hfk:=run_findKey (P:=P) (w:=w) (k:=.int .i64 q) (l:=[]) hku rfl
    simp only [Instr.lookup,Sem.run_bind,run_underlying hu,Result.andThen_ok,Sem.run_pure,run_checkKey hku (zcy q),hfk,hEy.zeK w]
    rfl
   exact Good.same (r:=R.zcx (.pin hp0 (e q)) (E.zeroV=E.zeroV)) I (.inl (zcd ho (by rw [hx,hy];exact hrun))) rfl (.pin _ _ _ _ hl (hz0 q))
  | rom _ _ _ _ _ b es clock ks e2 e3 e4 e5 e6 e7 e8 e9 ez e10=>
   obtain ⟨res,f1,f2,f3⟩:=zhB (by rw [e4,e5]) e6 e9 ez e10 q
   have hrun:=zdd (P:=P) hu hku hEy (I.hp _ _ (hl _ _ e2 (by simp) (by simp))) q false f1
   exact Good.same (r:=R.zcx (.pin hp0 (e q)) (E.zeroV=E.zeroV)) I (.inl (zcd ho (by rw [hx,hy];exact hrun))) rfl (.pin _ _ _ _ hl f2)
 case nilMap=>
  have hr':r=R.val (lkA ok (zgD E) false):=by cases ok <;> (simp only [] at hr;cases hr;rfl)
  subst hr'
  cases hmv
  have hrun:(Instr.lookup t (.map none) (.int .i64 q) ok).run P w = .ok (if ok then .tuple #[E.zeroV,.bool false] else E.zeroV) w:=by
   have hfk:=run_findKey (P:=P) (w:=w) (k:=.int .i64 q) (l:=[]) hku rfl
   simp only [Instr.lookup,Sem.run_bind,run_underlying hu,Result.andThen_ok,Sem.run_pure,run_checkKey hku (zcy q),hfk,hEy.zeK w]
  exact Good.same I (.inl (zcd ho (by rw [hx,hy];exact hrun))) rfl (zmw (Rel.zgD hEy h ρ) ok false)
theorem zkT (k:Int):Instr.sameBits 10000 (.int .i64 k) (.int .i64 k)=true:=by simp [Instr.sameBits]
theorem zhV (k:Int) (w:World):(Instr.keyThatStays (.int .i64 k) (.int .i64 k)).run P w = .ok (.int .i64 k) w:=by
 unfold Instr.keyThatStays
 rw [if_pos (zkT k)];rfl
theorem zm7 {t kt et:TypeId} (hu:P.underlying t=some (.map kt et)) (hku:P.underlying kt=some (.int .i64)) {b:Nat} {es:List MapEntry} {clock:Nat} {ks:List Int} (e2:w.heap[b]? = some (.map es.toArray clock)) (e3:ks.Nodup) (e4:ks.length=es.length)
 (e6:∀ (i:Nat) (k:Int) (x:MapEntry),ks[i]? = some k→es[i]? = some x→x.key = .int .i64 k) (e7:∀ x∈es,x.born<clock) (e8:(es.map (·.born)).Nodup) (q:Int) (v:Value) :
 ∃ (es':List MapEntry) (clock':Nat) (ks':List Int),(Instr.mapUpdate t (.map (some b)) (.int .i64 q) v).run P w = .ok () { w with heap:=w.heap.setIfInBounds b (.map es'.toArray clock') }∧ks'.Nodup∧ks'.length=es'.length∧ks'.length=(if q∈ks then ks.length else ks.length+1) ∧
  (∀ k,k∈ks'↔k=q∨k∈ks)∧(∀ (i:Nat) (k:Int) (x:MapEntry),ks'[i]? = some k→es'[i]? = some x→x.key = .int .i64 k)∧(∀ x∈es',x.born<clock')∧(es'.map (·.born)).Nodup ∧
  ∀ (i:Nat) (k:Int) (x:MapEntry),ks'[i]? = some k→es'[i]? = some x→(k=q∧x.val=v)∨(k≠q∧∃ i0:Nat,ks[i0]? = some k∧es[i0]? = some x):=by
 rcases find_spec e4 e6 q with ⟨h1,h2⟩|⟨j,x0,h1,h2,h3⟩
 · refine ⟨es++[{ key:=.int .i64 q,val:=v,born:=clock }],clock+1,ks++[q],?_,?_,by simp [e4],by simp [h1],by simp [or_comm],?_,?_,?_,?_⟩
   · simp only [Instr.mapUpdate,Sem.run_bind,run_underlying hu,Result.andThen_ok,MapKept.run_getObj_map e2,run_checkKey hku (zcy q),run_findKey hku h2,MapKept.run_setObj_map _ e2]
     simp
   · rw [List.nodup_append];exact ⟨e3,by simp,by simp;rintro c hc rfl;exact h1 hc⟩
   · intro i k x hik hix
     by_cases hi:i<ks.length
     · rw [List.getElem?_append_left hi] at hik
       rw [List.getElem?_append_left (by omega)] at hix
       exact e6 i k x hik hix
     · rw [List.getElem?_append_right (by omega)] at hik
       rw [List.getElem?_append_right (by omega)] at hix
       have hi0:i - ks.length=0:=by
        have:=(List.getElem?_eq_some_iff.1 hik).1;simp at this;omega
       rw [hi0] at hik
       have hi1:i - es.length=0:=by omega
       rw [hi1] at hix
       simp at hik hix;subst hik hix;rfl
   · intro x hx'
     rcases List.mem_append.1 hx' with p|p
     · have:=e7 x p;omega
     · simp at p;subst p;simp
   · simp only [List.map_append,List.map_cons,List.map_nil]
     rw [List.nodup_append]
     refine ⟨e8,by simp,?_⟩
     intro c hc d hd' heq
     simp at hd';subst hd';subst heq
     obtain ⟨x,p1,p2⟩:=List.mem_map.1 hc
     have:=e7 x p1;omega
   · intro i k x hik hix
     by_cases hi:i<ks.length
     · rw [List.getElem?_append_left hi] at hik
       rw [List.getElem?_append_left (by omega)] at hix
       have hne:k≠q:=by rintro rfl;exact h1 (List.mem_of_getElem? hik)
       exact .inr ⟨hne,i,hik,hix⟩
     · rw [List.getElem?_append_right (by omega)] at hik
       rw [List.getElem?_append_right (by omega)] at hix
       have hi0:i - ks.length=0:=by
        have:=(List.getElem?_eq_some_iff.1 hik).1;simp at this;omega
       rw [hi0] at hik
       have hi1:i - es.length=0:=by omega
       rw [hi1] at hix
       simp at hik hix;subst hik hix;exact .inl ⟨rfl,rfl⟩
 · have hkey:=e6 j q x0 h1 h2
   have hgm:∀ i,(es.modify j fun e=>{ e with key:=.int .i64 q,val:=v })[i]? = if i=j then (es[i]?).map (fun e=>{ e with key:=.int .i64 q,val:=v }) else es[i]? := by
    intro i
    rw [List.getElem?_modify]
    by_cases hi:i=j
    · subst hi;simp
    · rw [if_neg hi];cases es[i]? <;> simp [Ne.symm hi]
   refine ⟨es.modify j fun e=>{ e with key:=.int .i64 q,val:=v },clock,ks,?_,e3,by simp [e4],by rw [if_pos (List.mem_of_getElem? h1)],fun k=>⟨.inr,fun h=>h.elim (fun e=>e▸List.mem_of_getElem? h1) id⟩,?_,?_,?_,?_⟩
   · have hget:((es.toArray[j]?).map (·.key)).getD (.int .i64 q) = .int .i64 q:=by simp [h2,hkey]
     simp only [Instr.mapUpdate,Sem.run_bind,run_underlying hu,Result.andThen_ok,MapKept.run_getObj_map e2,run_checkKey hku (zcy q),run_findKey hku h3,hget,zhV,MapKept.run_setObj_map _ e2]
     simp
   · intro i k x hik hix
     rw [hgm] at hix
     by_cases hi:i=j
     · subst hi
       rw [if_pos rfl,h2] at hix
       rw [h1] at hik
       simp at hix hik;subst hix hik;rfl
     · rw [if_neg hi] at hix;exact e6 i k x hik hix
   · intro x hx'
     obtain ⟨i,hi,rfl⟩:=List.getElem_of_mem hx'
     have hgi:=hgm i
     rw [List.getElem?_eq_getElem hi] at hgi
     by_cases hij:i=j
     · subst hij
       rw [if_pos rfl,h2,Option.map_some] at hgi
       rw [Option.some.inj hgi];exact e7 x0 (List.mem_of_getElem? h2)
     · rw [if_neg hij] at hgi
       exact e7 _ (List.mem_of_getElem? hgi.symm)
   · have:(es.modify j fun e=>{ e with key:=.int .i64 q,val:=v }).map (·.born)=es.map (·.born):=by
      apply List.ext_getElem?
      intro i
      simp only [List.getElem?_map,hgm]
      by_cases hij:i=j
      · subst hij;rw [if_pos rfl];cases es[i]? <;> rfl
      · rw [if_neg hij]
     rw [this];exact e8
   · intro i k x hik hix
     rw [hgm] at hix
     by_cases hij:i=j
     · subst hij
       rw [if_pos rfl,h2] at hix
       rw [h1] at hik
       simp at hix hik;subst hix hik
       exact .inl ⟨rfl,rfl⟩
     · rw [if_neg hij] at hix
       have hne:k≠q:=by
        rintro rfl
        have h1':=(List.getElem?_eq_some_iff.1 h1)
        have hik':=(List.getElem?_eq_some_iff.1 hik)
        exact hij ((List.getElem_inj (h₀:=hik'.1) (h₁:=h1'.1) e3).1 (hik'.2.trans h1'.2.symm))
       exact .inr ⟨hne,i,hik,hix⟩
theorem zno {t kt et:TypeId} (hu:P.underlying t=some (.map kt et)) (hku:P.underlying kt=some (.int .i64)) (I:InvH N C h ρ F M g a w) {x y z:Operand} (ho:o.op = .mapUpdate t x y z∨o.op = .insert t x y z) {id:Nat} {q:Int} {xv:Value} (hx:a.eval x=xv) (hy:a.eval y = .int .i64 q)
 (hmv:Rel h ρ (.mp id) xv) {v:AV} (hvv:Rel h ρ v (a.eval z)) {ty sz n:Nat} {dom:Int→Bool} {m:Int→Nat} {e:Int→Nat→List AV} {a0:AV} (hM:M id=some (.gmap ty sz n dom m e (some (q,a0)))) :
 Good P N C h ρ F M g a o w ⟨.any,[id],[(id,.gmap ty sz (bif dom q then n else n+1) (fun j=>decide (j=q) || dom j) m e (some (q,v)))],some (q=q),none⟩:=by
 obtain ⟨b,es,clock,ks,R,e1,e2,e3,e4,e5,e6,e7,e8,e9,e10,e11,e12,e13⟩:=I.blk id _ hM
 cases hmv with
 | mp _ _ li b' hb hmb=>
  rw [e1] at hb;cases hb;cases hmb
  have hlt:b<w.heap.size:=zfe e2
  obtain ⟨es',clock',ks',f1,f2,f3,f4,f5,f6,f7,f8,f9⟩:=zm7 (P:=P) hu hku e2 e3 (by rw [e4,e5]) e6 e7 e8 q (a.eval z)
  have hdq:(dom q=true)↔q∈ks:=e9 q
  have hrows:∀ k c v' b',R k=some (c,v')→v'.ownBlock=some b'→b'≠b:=fun k c v' b' hR hb' e=>(e12 k c v' hR).2 (e▸hb')
  refine ⟨undef,{ w with heap:=w.heap.setIfInBounds b (.map es'.toArray clock') },h,ρ,.inr ⟨?_,rfl⟩,I.zg2 (w':={ w with heap:=w.heap.setIfInBounds b (.map es'.toArray clock') }) e1 _ rfl rfl rfl (by simp) (fun k hk=>(heap_set e2).2 k (fun e=>hk (by subst e;exact .inl rfl))) ?_,.any _ _⟩
  · unfold execOp
    rcases ho with ho|ho <;> simp only [ho,hx,hy,Sem.run_bind,f1,Result.andThen_ok,Sem.run_pure]
  · refine ⟨b,es',clock',ks',R,e1,by simp [hlt],f2,?_,?_,f6,f7,f8,?_,?_,?_,?_,?_⟩
    · rw [f4]
      by_cases hq:q∈ks
      · simp [hq,hdq.2 hq,e4]
      · have:dom q=false:=by
         cases hd:dom q with
         | false=>rfl
         | true=>exact absurd (hdq.1 hd) hq
        simp [hq,this,e4]
    · rw [← f3,f4]
      by_cases hq:q∈ks
      · simp [hq,hdq.2 hq,e4]
      · have:dom q=false:=by
         cases hd:dom q with
         | false=>rfl
         | true=>exact absurd (hdq.1 hd) hq
        simp [hq,this,e4]
    · intro k
      simp only [Bool.or_eq_true,decide_eq_true_eq,f5,e9 k]
    · intro i k x hik hix
      refine ⟨fun a' ha=>?_,fun ha=>?_⟩
      · cases ha
        rcases f9 i q x hik hix with ⟨_,hxv⟩|⟨hne,_⟩
        · rw [hxv];exact hvv
        · exact absurd rfl hne
      · rcases f9 i k x hik hix with ⟨rfl,_⟩|⟨hne,i0,g1,g2⟩
        · exact absurd rfl (ha v)
        · exact (e10 i0 k x g1 g2).2 (fun a' h'=>by cases h';exact hne rfl)
    · intro k a' ha
      cases ha
      exact ⟨(e11 q a0 rfl).1,fun hd=>by simp at hd⟩
    · intro k c v' hR
      obtain ⟨g1,g2⟩:=e12 k c v' hR
      exact ⟨by simp [g1],g2⟩
    · exact e13.keep (Le.refl h) (fun k c v' b' hR hb'=>(heap_set e2).2 b' (hrows k c v' b' hR hb'))
theorem zls (hΓ:zbb P Γ) (I:InvH N C h ρ F M g a w) {t:TypeId} {x y z:Operand} (ho:o.op = .mapUpdate t x y z∨o.op = .insert t x y z) {m k v:AV} (hmv:Rel h ρ m (a.eval x)) (hkv:Rel h ρ k (a.eval y)) (hvv:Rel h ρ v (a.eval z)) {r:R}
 (hr:zkw Γ mg t m k v=some r) (hm:∀ id,id∈r.rd→M id=mg id) (hc:∀ q,r.cs=some q→q):Good P N C h ρ F M g a o w r:=by
 unfold zkw at hr
 cases hT:tyOf Γ t with
 | none=>simp [hT] at hr
 | some T=>
 simp only [hT] at hr
 cases hd:T.d <;> simp only [hd] at hr <;> (try (cases hr;done))
 rename_i kt et
 cases hK:tyOf Γ kt with
 | none=>simp [hK] at hr
 | some KT=>
 simp only [hK] at hr
 cases hkd:KT.d <;> simp only [hkd] at hr <;> (try (cases hr;done))
 rename_i ik
 cases ik <;> (try simp only [] at hr) <;> (try (cases hr;done))
 have hu:=(hΓ t T hT).zgF hd
 have hku:=(hΓ kt KT hK).zel hkd
 cases k <;> (try simp only [] at hr) <;> (try (cases hr;done))
 rename_i kk q
 cases kk <;> (try simp only [] at hr) <;> (try (cases hr;done))
 generalize hy:a.eval y=yv at hkv
 cases hkv
 generalize hx:a.eval x=xv at hmv
 cases m <;> (try simp only [] at hr) <;> (try (cases hr;done))
 rename_i id
 cases hg:mg id with
 | none=>simp [hg] at hr
 | some bl=>
 cases bl <;> simp only [hg] at hr <;> (try (cases hr;done))
 case gmap ty sz n dom m e out=>
  cases out with
  | none=>simp at hr
  | some p=>
  obtain ⟨k0,a0⟩:=p
  simp only [] at hr
  cases hr
  obtain rfl:q=k0:=hc _ rfl
  exact zno hu hku I ho hx hy hmv hvv ((hm id (by simp)).trans hg)
 rename_i zz dom e n
 cases hcl:v.cl with
 | false=>simp [hcl] at hr
 | true=>
 simp only [hcl] at hr
 cases hr
 obtain ⟨b,es,clock,ks,e1,e2,e3,e4,e5,e6,e7,e8,e9,ez,e10⟩:=I.blk id _ ((hm id (by simp)).trans hg)
 cases hmv with
 | mp _ _ li b' hb hmb=>
  rw [e1] at hb;cases hb;cases hmb
  have hlt:b<w.heap.size:=zfe e2
  have fin:∀ (o':Obj),(Instr.mapUpdate t (.map (some b)) (.int .i64 q) (a.eval z)).run P w = .ok () { w with heap:=w.heap.setIfInBounds b o' } →
   zbJ h ρ id (.map zz (fun j=>decide (j=q) || dom j) (fun j=>bif decide (j=q) then v else e j) (bif dom q then n else n+1)) { w with heap:=w.heap.setIfInBounds b o' } →
   Good P N C h ρ F M g a o w ⟨.any,[id],[(id,.map zz (fun j=>decide (j=q) || dom j) (fun j=>bif decide (j=q) then v else e j) (bif dom q then n else n+1))],none,none⟩:=by
   intro o' hrun hblk
   refine ⟨undef,{ w with heap:=w.heap.setIfInBounds b o' },h,ρ,.inr ⟨?_,rfl⟩,I.turn (w':={ w with heap:=w.heap.setIfInBounds b o' }) e1 _ rfl rfl rfl (by simp) (fun k hk=>(heap_set e2).2 k hk) hblk,.any _ _⟩
   unfold execOp
   rcases ho with ho|ho <;> simp only [ho,hx,hy,Sem.run_bind,hrun,Result.andThen_ok,Sem.run_pure]
  have hrel0:Rel h ρ0 v (a.eval z):=hvv.zdu hcl
  rcases find_spec (by rw [e4,e5]) e6 q with ⟨h1,h2⟩|⟨j,x0,h1,h2,h3⟩
  · have hdq:dom q=false:=by
     cases hdq:dom q with
     | false=>rfl
     | true=>exact absurd ((e9 q).1 hdq) h1
    refine fin (.map (es.toArray.push { key:=.int .i64 q,val:=a.eval z,born:=clock }) (clock+1)) ?_ ?_
    · simp only [Instr.mapUpdate,Sem.run_bind,run_underlying hu,Result.andThen_ok,MapKept.run_getObj_map e2,run_checkKey hku (zcy q),run_findKey hku h2,MapKept.run_setObj_map _ e2]
    · refine ⟨b,es++[{ key:=.int .i64 q,val:=a.eval z,born:=clock }],clock+1,ks++[q],e1,by simp [hlt],?_,by simp [e4,hdq],by simp [e5,hdq],?_,?_,?_,?_,?_,?_⟩
      · rw [List.nodup_append];exact ⟨e3,by simp,by simp;rintro c hcm rfl;exact h1 hcm⟩
      · intro i k x hik hix
        by_cases hi:i<ks.length
        · rw [List.getElem?_append_left hi] at hik
          rw [List.getElem?_append_left (by omega)] at hix
          exact e6 i k x hik hix
        · rw [List.getElem?_append_right (by omega)] at hik
          rw [List.getElem?_append_right (by omega)] at hix
          have hi0:i - ks.length=0:=by
           have:=(List.getElem?_eq_some_iff.1 hik).1;simp at this;omega
          rw [hi0] at hik
          have hi1:i - es.length=0:=by omega
          rw [hi1] at hix
          simp at hik hix;subst hik hix;rfl
      · intro x hx'
        rcases List.mem_append.1 hx' with p|p
        · have:=e7 x p;omega
        · simp at p;subst p;simp
      · simp only [List.map_append,List.map_cons,List.map_nil]
        rw [List.nodup_append]
        refine ⟨e8,by simp,?_⟩
        intro c hc d hd' heq
        simp at hd';subst hd';subst heq
        obtain ⟨x,p1,p2⟩:=List.mem_map.1 hc
        have:=e7 x p1;omega
      · intro k
        simp only [Bool.or_eq_true,decide_eq_true_eq,List.mem_append,List.mem_singleton,e9 k]
        exact Or.comm
      · intro k hkf
        simp only [Bool.or_eq_false_iff,decide_eq_false_iff_not] at hkf
        simp only [hkf.1,decide_false,cond_false]
        exact ez k hkf.2
      · intro i k x hik hix
        by_cases hi:i<ks.length
        · rw [List.getElem?_append_left hi] at hik
          rw [List.getElem?_append_left (by omega)] at hix
          have hne:k≠q:=by rintro rfl;exact h1 (List.mem_of_getElem? hik)
          simp only [hne,decide_false,cond_false]
          exact e10 i k x hik hix
        · rw [List.getElem?_append_right (by omega)] at hik
          rw [List.getElem?_append_right (by omega)] at hix
          have hi0:i - ks.length=0:=by
           have:=(List.getElem?_eq_some_iff.1 hik).1;simp at this;omega
          rw [hi0] at hik
          have hi1:i - es.length=0:=by omega
          rw [hi1] at hix
          simp at hik hix;subst hik hix
          simp only [decide_true,cond_true]
          exact hrel0
  · have hdq:dom q=true:=(e9 q).2 (List.mem_of_getElem? h1)
    have hkey:=e6 j q x0 h1 h2
    refine fin (.map (es.toArray.modify j fun e=>{ e with key:=.int .i64 q,val:=a.eval z }) clock) ?_ ?_
    · have hget:((es.toArray[j]?).map (·.key)).getD (.int .i64 q) = .int .i64 q:=by simp [h2,hkey]
      simp only [Instr.mapUpdate,Sem.run_bind,run_underlying hu,Result.andThen_ok,MapKept.run_getObj_map e2,run_checkKey hku (zcy q),run_findKey hku h3,hget,zhV,MapKept.run_setObj_map _ e2]
    · have hgm:∀ i,(es.modify j fun e=>{ e with key:=.int .i64 q,val:=a.eval z })[i]? = if i=j then (es[i]?).map (fun e=>{ e with key:=.int .i64 q,val:=a.eval z }) else es[i]? := by
       intro i
       rw [List.getElem?_modify]
       by_cases hi:i=j
       · subst hi;simp
       · rw [if_neg hi];cases es[i]? <;> simp [Ne.symm hi]
      refine ⟨b,es.modify j fun e=>{ e with key:=.int .i64 q,val:=a.eval z },clock,ks,e1,by simp [hlt],e3,by simp [e4,hdq],by simp [e5,hdq],?_,?_,?_,?_,?_,?_⟩
      · intro i k x hik hix
        rw [hgm] at hix
        by_cases hi:i=j
        · subst hi
          rw [if_pos rfl,h2] at hix
          rw [h1] at hik
          simp at hix hik;subst hix hik;rfl
        · rw [if_neg hi] at hix;exact e6 i k x hik hix
      · intro x hx'
        obtain ⟨i,hi,rfl⟩:=List.getElem_of_mem hx'
        have hgi:=hgm i
        rw [List.getElem?_eq_getElem hi] at hgi
        by_cases hij:i=j
        · subst hij
          rw [if_pos rfl,h2,Option.map_some] at hgi
          rw [Option.some.inj hgi];exact e7 x0 (List.mem_of_getElem? h2)
        · rw [if_neg hij] at hgi
          exact e7 _ (List.mem_of_getElem? hgi.symm)
      · have:(es.modify j fun e=>{ e with key:=.int .i64 q,val:=a.eval z }).map (·.born)=es.map (·.born):=by
         apply List.ext_getElem?
         intro i
         simp only [List.getElem?_map,hgm]
         by_cases hij:i=j
         · subst hij;rw [if_pos rfl];cases es[i]? <;> rfl
         · rw [if_neg hij]
        rw [this];exact e8
      · intro k
        simp only [Bool.or_eq_true,decide_eq_true_eq]
        constructor
        · rintro (rfl|h')
          · exact List.mem_of_getElem? h1
          · exact (e9 k).1 h'
        · intro h';exact .inr ((e9 k).2 h')
      · intro k hkf
        simp only [Bool.or_eq_false_iff,decide_eq_false_iff_not] at hkf
        simp only [hkf.1,decide_false,cond_false]
        exact ez k hkf.2
      · intro i k x hik hix
        rw [hgm] at hix
        by_cases hij:i=j
        · subst hij
          rw [if_pos rfl,h2] at hix
          rw [h1] at hik
          simp at hix hik;subst hix hik
          simp only [decide_true,cond_true]
          exact hrel0
        · rw [if_neg hij] at hix
          have hne:k≠q:=by
           rintro rfl
           have h1':=(List.getElem?_eq_some_iff.1 h1)
           have hik':=(List.getElem?_eq_some_iff.1 hik)
           exact hij ((List.getElem_inj (h₀:=hik'.1) (h₁:=h1'.1) e3).1 (hik'.2.trans h1'.2.symm))
          simp only [hne,decide_false,cond_false]
          exact e10 i k x hik hix
theorem ziM {α:Type} {l:List α} (h:l.Nodup) (j:Nat):(l.eraseIdx j).Nodup:=List.Sublist.nodup (List.eraseIdx_sublist l j) h
theorem zov (hΓ:zbb P Γ) (I:InvH N C h ρ F M g a w) {t t2:TypeId} {x y:Operand} {ts:Array TypeId} (hts:ts[0]? = some t) (ho:o.op = .call { callee:=.builtin .delete,args:=#[x,y],argTypes:=ts }) {m k:AV} (hmv:Rel h ρ m (a.eval x)) (hkv:Rel h ρ k (a.eval y)) {r:R}
 (hr:zkx Γ mg t m k=some r) (hm:∀ id,id∈r.rd→M id=mg id) (hc:∀ q,r.cs=some q→q) (_:t2=t):Good P N C h ρ F M g a o w r:=by
 unfold zkx at hr
 cases hT:tyOf Γ t with
 | none=>simp [hT] at hr
 | some T=>
 simp only [hT] at hr
 cases hd:T.d <;> simp only [hd] at hr <;> (try (cases hr;done))
 rename_i kt et
 cases hK:tyOf Γ kt with
 | none=>simp [hK] at hr
 | some KT=>
 simp only [hK] at hr
 cases hkd:KT.d <;> simp only [hkd] at hr <;> (try (cases hr;done))
 rename_i ik
 cases ik <;> (try simp only [] at hr) <;> (try (cases hr;done))
 cases hE:tyOf Γ et with
 | none=>simp [hE] at hr
 | some E=>
 simp only [hE] at hr
 have hu:=(hΓ t T hT).zgF hd
 have hku:=(hΓ kt KT hK).zel hkd
 have hEy:=hΓ et E hE
 cases k <;> (try simp only [] at hr) <;> (try (cases hr;done))
 rename_i kk q
 cases kk <;> (try simp only [] at hr) <;> (try (cases hr;done))
 generalize hy:a.eval y=yv at hkv
 cases hkv
 generalize hx:a.eval x=xv at hmv
 cases m <;> (try simp only [] at hr) <;> (try (cases hr;done))
 rename_i id
 cases hg:mg id with
 | none=>simp [hg] at hr
 | some bl=>
 cases bl <;> simp only [hg] at hr <;> (try (cases hr;done))
 rename_i zz dom e n
 cases hr
 obtain rfl:zz=E.zeroV:=hc _ rfl
 obtain ⟨b,es,clock,ks,e1,e2,e3,e4,e5,e6,e7,e8,e9,ez,e10⟩:=I.blk id _ ((hm id (by simp)).trans hg)
 cases hmv with
 | mp _ _ li b' hb hmb=>
  rw [e1] at hb;cases hb;cases hmb
  have hlt:b<w.heap.size:=zfe e2
  have fin:∀ (o':Obj),(Builtin.delete_ ts o.type #[.map (some b),.int .i64 q]).run P w = .ok (.tuple #[]) { w with heap:=w.heap.setIfInBounds b o' } →
   zbJ h ρ id (.map E.zeroV (fun j=>!decide (j=q) && dom j) (fun j=>bif decide (j=q) then zgD E else e j) (bif dom q then n - 1 else n)) { w with heap:=w.heap.setIfInBounds b o' } →
   Good P N C h ρ F M g a o w ⟨.any,[id],[(id,.map E.zeroV (fun j=>!decide (j=q) && dom j) (fun j=>bif decide (j=q) then zgD E else e j) (bif dom q then n - 1 else n))],some (E.zeroV=E.zeroV),none⟩:=by
   intro o' hrun hblk
   refine ⟨.tuple #[],{ w with heap:=w.heap.setIfInBounds b o' },h,ρ,.inl ?_,I.turn (w':={ w with heap:=w.heap.setIfInBounds b o' }) e1 _ rfl rfl rfl (by simp) (fun k hk=>(heap_set e2).2 k hk) hblk,.any _ _⟩
   unfold execOp
   simp only [ho,resolve,invoke,builtin,Sem.run_bind,Sem.run_pure,Result.andThen_ok,List.map_toArray,List.map_cons,List.map_nil,hx,hy,hrun]
  rcases find_spec (by rw [e4,e5]) e6 q with ⟨h1,h2⟩|⟨j,x0,h1,h2,h3⟩
  · have hdq:dom q=false:=by
     cases hdq:dom q with
     | false=>rfl
     | true=>exact absurd ((e9 q).1 hdq) h1
    refine fin (.map es.toArray clock) ?_ ?_
    · have hts':ts[0]? = some t:=hts
      simp only [Builtin.delete_,hts',List.getElem?_toArray,List.getElem?_cons_zero,List.getElem?_cons_succ,Sem.run_bind,run_underlying hu,Result.andThen_ok,MapKept.run_getObj_map e2,run_checkKey hku (zcy q),run_findKey hku h2,MapKept.run_setObj_map _ e2,Sem.run_pure]
    · refine ⟨b,es,clock,ks,e1,by simp [hlt],e3,by simp [e4,hdq],by simp [e5,hdq],e6,e7,e8,?_,?_,?_⟩
      · intro k
        simp only [Bool.and_eq_true,Bool.not_eq_true',decide_eq_false_iff_not,e9 k]
        exact ⟨fun p=>p.2,fun p=>⟨by rintro rfl;exact h1 p,p⟩⟩
      · intro k hkf
        by_cases hk:k=q
        · subst hk;simp only [decide_true,cond_true];exact Rel.zgD hEy h ρ0
        · simp only [hk,decide_false,Bool.not_false,Bool.true_and] at hkf
          simp only [hk,decide_false,cond_false];exact ez k hkf
      · intro i k x hik hix
        have hne:k≠q:=by rintro rfl;exact h1 (List.mem_of_getElem? hik)
        simp only [hne,decide_false,cond_false]
        exact e10 i k x hik hix
  · have hdq:dom q=true:=(e9 q).2 (List.mem_of_getElem? h1)
    have hj:j<es.length:=(List.getElem?_eq_some_iff.1 h2).1
    have hnpos:0<n:=by omega
    refine fin (.map (es.toArray.eraseIdxIfInBounds j) clock) ?_ ?_
    · simp only [Builtin.delete_,hts,List.getElem?_toArray,List.getElem?_cons_zero,List.getElem?_cons_succ,Sem.run_bind,run_underlying hu,Result.andThen_ok,MapKept.run_getObj_map e2,run_checkKey hku (zcy q),run_findKey hku h3,MapKept.run_setObj_map _ e2,Sem.run_pure]
    · have hqj:∀ (i:Nat) (k:Int),ks[i]? = some k→k=q→i=j:=by
       rintro i k hik rfl
       have h1':=(List.getElem?_eq_some_iff.1 h1)
       have hik':=(List.getElem?_eq_some_iff.1 hik)
       exact (List.getElem_inj (h₀:=hik'.1) (h₁:=h1'.1) e3).1 (hik'.2.trans h1'.2.symm)
      have hidx:∀ (i:Nat) (k:Int) (x:MapEntry),(ks.eraseIdx j)[i]? = some k→(es.eraseIdx j)[i]? = some x→∃ i',i'≠j∧ks[i']? = some k∧es[i']? = some x:=by
       intro i k x hik hix
       rw [List.getElem?_eraseIdx] at hik hix
       by_cases hi:i<j
       · rw [if_pos hi] at hik hix;exact ⟨i,by omega,hik,hix⟩
       · rw [if_neg hi] at hik hix;exact ⟨i+1,by omega,hik,hix⟩
      refine ⟨b,es.eraseIdx j,clock,ks.eraseIdx j,e1,by simp [hlt,hj,Array.eraseIdxIfInBounds],ziM e3 j,by simp [hdq,List.length_eraseIdx,e4];omega,by simp [hdq,List.length_eraseIdx,e5];omega,?_,?_,?_,?_,?_,?_⟩
      · intro i k x hik hix
        obtain ⟨i',_,p1,p2⟩:=hidx i k x hik hix
        exact e6 i' k x p1 p2
      · intro x hx';exact e7 x (List.mem_of_mem_eraseIdx hx')
      · rw [show (es.eraseIdx j).map (·.born)=(es.map (·.born)).eraseIdx j from by
         apply List.ext_getElem?
         intro i
         simp only [List.getElem?_map,List.getElem?_eraseIdx]
         split <;> rfl]
        exact ziM e8 j
      · intro k
        simp only [Bool.and_eq_true,Bool.not_eq_true',decide_eq_false_iff_not,e9 k]
        rw [List.mem_eraseIdx_iff_getElem?]
        constructor
        · rintro ⟨p1,p2⟩
          obtain ⟨i,hi⟩:=List.getElem?_of_mem p2
          refine ⟨i,?_,hi⟩
          rintro rfl
          rw [h1] at hi;cases hi;exact p1 rfl
        · rintro ⟨i,p1,p2⟩
          exact ⟨fun hkq=>p1 (hqj i k p2 hkq),List.mem_of_getElem? p2⟩
      · intro k hkf
        by_cases hk:k=q
        · subst hk;simp only [decide_true,cond_true];exact Rel.zgD hEy h ρ0
        · simp only [hk,decide_false,Bool.not_false,Bool.true_and] at hkf
          simp only [hk,decide_false,cond_false];exact ez k hkf
      · intro i k x hik hix
        obtain ⟨i',p0,p1,p2⟩:=hidx i k x hik hix
        have hne:k≠q:=fun hkq=>p0 (hqj i' k p1 hkq)
        simp only [hne,decide_false,cond_false]
        exact e10 i' k x p1 p2
end
end Go.Av
end
/- The evaluator is right, part 9: the rest, and the whole for operations that are no calls of Go functions. -/
section
set_option linter.all false
namespace Go.Av
section
variable {P:Program} {N:Nat} {C:Ctx} {h:Hp} {ρ:Rho} {F:Fr} {M:Mm} {g:Nat} {a:Act} {w:World} {Γ:Tys} {mg:Mm} {o:Oper}
theorem znP {sz n:Nat} {el:Nat→List AV} {ad:Option Addr} {cap l hh:Nat} (H:Rel h ρ (.ro sz n el) (.slice ad n cap)) (hl:l≤hh) (hn:hh≤n) :
 Rel h ρ (.ro sz (hh - l) (fun k=>el (l+k))) (.slice (if cap=l then ad else ad.map (·.add (l * sz))) (hh - l) (cap - l)):=by
 cases H with
 | ro _ _ _ _ _ _ hnil hcap hsz hs h1 hc=>
  by_cases hcl:cap=l
  · rw [if_pos hcl]
    have hz:hh - l=0:=by omega
    rw [hz]
    exact .ro _ _ _ _ _ _ (fun _=>rfl) ⟨Nat.zero_le _,Nat.zero_le _⟩ (fun i hi=>by omega) (fun i j hi=>by omega) (fun k v hk=>by simp at hk) (fun i j c v hi=>by omega)
  · rw [if_neg hcl]
    have hcell:∀ k,hcell h (ad.map (·.add (l * sz))) k=hcell h ad (l * sz+k):=by
     intro k
     cases ad with
     | none=>rfl
     | some ad=>simp only [Option.map_some,Av.hcell,ziu]
    have hidx:∀ i j,l * sz+(i * sz+j)=(l+i) * sz+j:=fun i j=>by rw [Nat.add_mul];omega
    refine .ro _ _ _ _ _ _ (fun e=>?_) ⟨by omega,by omega⟩ (fun i hi=>hsz _ (by omega)) (fun i j hi hj=>?_) (fun k v hk hv=>?_) (fun i j c v hi hj hv=>?_)
    · cases ad with
      | none=>have:=hnil rfl;omega
      | some _=>cases e
    · rw [hcell,hidx];exact hs _ _ (by omega) hj
    · rw [hcell] at hv
      refine h1 _ v ?_ hv
      have:(hh - l) * sz+l * sz≤n * sz:=by rw [← Nat.add_mul];exact Nat.mul_le_mul_right _ (by omega)
      omega
    · rw [hcell,hidx] at hv
      exact hc _ _ c v (by omega) hj hv
theorem zo9 {sz n:Nat} {el:Nat→List AV} {ad:Option Addr} {cap c hh:Nat} (H:Rel h ρ (.ro sz n el) (.slice ad n cap)) (hl:hh≤c) (hn:c≤n) :
 Rel h ρ (.ro sz hh el) (.slice (if c=0 then ad else ad.map (·.add (0 * sz))) hh (c - 0)):=by
 cases H with
 | ro _ _ _ _ _ _ hnil hcap hsz hs h1 hc=>
  by_cases hcl:c=0
  · have hz:hh=0:=by omega
    rw [if_pos hcl,hz]
    exact .ro _ _ _ _ _ _ (fun _=>rfl) ⟨Nat.zero_le _,by omega⟩ (fun i hi=>by omega) (fun i j hi=>by omega) (fun k v hk=>by simp at hk) (fun i j c v hi=>by omega)
  · rw [if_neg hcl]
    have hcell:∀ k,hcell h (ad.map (·.add (0 * sz))) k=hcell h ad k:=by
     intro k
     cases ad with
     | none=>rfl
     | some ad=>simp only [Option.map_some,Av.hcell,ziu];congr 2;omega
    refine .ro _ _ _ _ _ _ (fun e=>?_) ⟨by omega,by omega⟩ (fun i hi=>hsz _ (by omega)) (fun i j hi hj=>?_) (fun k v hk hv=>?_) (fun i j c v hi hj hv=>?_)
    · cases ad with
      | none=>have:=hnil rfl;omega
      | some _=>cases e
    · rw [hcell];exact hs _ _ (by omega) hj
    · rw [hcell] at hv
      refine h1 _ v ?_ hv
      have:hh * sz≤n * sz:=Nat.mul_le_mul_right _ (by omega)
      omega
    · rw [hcell] at hv
      exact hc _ _ c v (by omega) hj hv
theorem zg6 {sz n:Nat} {el:Nat→List AV} {v:Value} (H:Rel h ρ (.ro sz n el) v):∃ ad cap,v = .slice ad n cap∧n≤cap:=by
 cases H with
 | ro _ _ _ _ ad cap _ hcap _ _ _ _=>exact ⟨ad,cap,rfl,hcap.1⟩
theorem run_sliceBound {i:Int} {y:Nat} {code:BoundsCode} (hi:0≤i∧i≤(y:Int)) (w:World):(Instr.sliceBound (.int .i64 i) y code).run P w = .ok i.toNat w:=by
 simp only [Instr.sliceBound,asIntOf,Sem.run_bind,Sem.run_pure,Result.andThen_ok]
 rw [if_pos hi];rfl
theorem zpt (hΓ:zbb P Γ) (I:InvH N C h ρ F M g a w) {t:TypeId} {x:Operand} {lo hi:Option Operand} (ho:o.op = .slice t x lo hi none) {val:Operand→AV} (hv:∀ y,y∈o.op.operands→Rel h ρ (val y) (a.eval y)) {r:R}
 (hr:zma Γ t (val x) (optV val lo) (optV val hi)=some r) (hc:∀ q,r.cs=some q→q):Good P N C h ρ F M g a o w r:=by
 unfold zma at hr
 cases hT:tyOf Γ t with
 | none=>simp [hT] at hr
 | some T=>
 simp only [hT] at hr
 cases hd:T.d <;> simp only [hd] at hr <;> (try (cases hr;done))
 rename_i e
 cases hE:tyOf Γ e with
 | none=>simp [hE] at hr
 | some E=>
 simp only [hE] at hr
 have hu:=(hΓ t T hT).za4 hd
 have hEy:=hΓ e E hE
 have hx:Rel h ρ (val x) (a.eval x):=hv x (by rw [ho];simp [Op.operands])
 cases hvx:val x <;> simp only [hvx] at hr <;> (try (cases hr;done))
 case nilS=>
  rw [hvx] at hx
  have hax:a.eval x = .slice none 0 0:=by generalize a.eval x=v at hx;cases hx;rfl
  cases lo with
  | some y=>cases hi <;> simp [optV] at hr
  | none=>
  cases hi with
  | none=>simp [optV] at hr
  | some y=>
  simp only [optV] at hr
  cases hvy:val y <;> simp only [hvy] at hr <;> (try (cases hr;done))
  rename_i kk b
  cases kk <;> (try simp only [] at hr) <;> (try (cases hr;done))
  cases hr
  obtain rfl:b=0:=hc _ rfl
  have hy:=hv y (by rw [ho];simp [Op.operands])
  rw [hvy] at hy
  have hay:a.eval y = .int .i64 0:=by generalize a.eval y=v at hy;cases hy;rfl
  refine Good.same (r:=R.zcx .nilS ((0:Int)=0)) I (x:=.slice none 0 0) (.inl ?_) rfl (.nilS _)
  unfold execOp
  have hsb:(Instr.sliceBounds true 0 0 none (some (.int .i64 0)) none).run P w = .ok (0,0,0) w:=by
   simp only [Instr.sliceBounds,Sem.run_bind,Sem.run_pure,Result.andThen_ok,run_sliceBound (P:=P) (i:=0) (y:=0) ⟨by omega,by omega⟩]
   rfl
  simp only [ho,hax,hay,Instr.sliceAt,Instr.slice,Sem.run_bind,run_underlying hu,Result.andThen_ok,hsb,hEy.zcP w,Sem.run_pure,Option.map_none,Option.map_some]
  rfl
 rename_i sz n el
 cases hb:Nat.beq sz E.size with
 | false=>simp [hb] at hr
 | true=>
 simp only [hb] at hr
 have hsz:=Nat.eq_of_beq_eq_true hb
 rw [hvx] at hx
 obtain ⟨ad,cap,hax,hcap⟩:=zg6 hx
 rw [hax] at hx
 -- the run,once the bounds are known
 have fin:∀ (l hh:Nat) (lv hv':Option Value),l≤hh→hh≤n→(Instr.sliceBounds true n cap lv hv' none).run P w = .ok (l,hh,cap) w→lo.map a.eval=lv→hi.map a.eval=hv' →
  ∀ el',(∀ k,el' k=el (l+k))→∀ n',n'=hh - l→∀ q,Good P N C h ρ F M g a o w ⟨.ro sz n' el',[],[],q,none⟩:=by
  intro l hh lv hv' hlh hhn hrun h1 h2 el' hel n' hn' q
  have hrel:=znP hx hlh hhn
  have hel':el'=fun k=>el (l+k):=funext hel
  rw [hel',hn']
  refine Good.same I (.inl ?_) rfl hrel
  unfold execOp
  simp only [ho,hax,h1,h2,Instr.sliceAt,Instr.slice,Sem.run_bind,run_underlying hu,Result.andThen_ok,hrun,hEy.zcP w,Sem.run_pure,Option.map_none,← hsz]
 have hlo:∀ y,lo=some y→Rel h ρ (val y) (a.eval y):=fun y hy=>hv y (by rw [ho,hy];cases hi <;> simp [Op.operands])
 have hhi:∀ y,hi=some y→Rel h ρ (val y) (a.eval y):=fun y hy=>hv y (by rw [ho,hy];cases lo <;> simp [Op.operands])
 cases lo with
 | none=>
  cases hi with
  | none=>
   simp only [optV] at hr
   cases hr
   exact fin 0 n none none (Nat.zero_le _) (Nat.le_refl _) (by simp [Instr.sliceBounds]) rfl rfl el (fun k=>by simp) n (by omega) none
  | some y=>
   have hy:=hhi y rfl
   simp only [optV] at hr
   cases hvy:val y <;> simp only [hvy] at hr <;> (try (cases hr;done))
   rename_i kk b
   cases kk <;> (try simp only [] at hr) <;> (try (cases hr;done))
   cases hr
   obtain ⟨q1,q2⟩:0≤b∧b≤(n:Int):=hc _ rfl
   rw [hvy] at hy
   generalize hye:a.eval y=yv at hy
   cases hy
   exact fin 0 b.toNat none (some (.int .i64 b)) (Nat.zero_le _) (by omega) (by
    simp only [Instr.sliceBounds,Sem.run_bind,Sem.run_pure,Result.andThen_ok,run_sliceBound (P:=P) (i:=b) (y:=cap) ⟨q1,by omega⟩]) rfl (by simp [hye]) el (fun k=>by simp) _ (by omega) _
 | some z=>
  have hz:=hlo z rfl
  cases hi with
  | none=>
   simp only [optV] at hr
   cases hvz:val z <;> simp only [hvz] at hr <;> (try (cases hr;done))
   rename_i kk b
   cases kk <;> (try simp only [] at hr) <;> (try (cases hr;done))
   cases hr
   obtain ⟨q1,q2⟩:0≤b∧b≤(n:Int):=hc _ rfl
   rw [hvz] at hz
   generalize hze:a.eval z=zv at hz
   cases hz
   exact fin b.toNat n (some (.int .i64 b)) none (by omega) (Nat.le_refl _) (by
    simp only [Instr.sliceBounds,Sem.run_bind,Sem.run_pure,Result.andThen_ok,run_sliceBound (P:=P) (i:=b) (y:=n) ⟨q1,q2⟩]) (by simp [hze]) rfl _ (fun k=>rfl) _ rfl _
  | some y=>
   have hy:=hhi y rfl
   simp only [optV] at hr
   cases hvz:val z <;> simp only [hvz] at hr <;> (try (cases hr;done))
   rename_i kk b
   cases kk <;> (try simp only [] at hr) <;> (try (cases hr;done))
   cases hvy:val y <;> simp only [hvy] at hr <;> (try (cases hr;done))
   rename_i kk c
   cases kk <;> (try simp only [] at hr) <;> (try (cases hr;done))
   cases hr
   obtain ⟨q1,q2,q3⟩:0≤b∧b≤c∧c≤(n:Int):=hc _ rfl
   rw [hvz] at hz
   rw [hvy] at hy
   generalize hze:a.eval z=zv at hz
   generalize hye:a.eval y=yv at hy
   cases hz;cases hy
   exact fin b.toNat c.toNat (some (.int .i64 b)) (some (.int .i64 c)) (by omega) (by omega) (by
    simp only [Instr.sliceBounds,Sem.run_bind,Sem.run_pure,Result.andThen_ok,run_sliceBound (P:=P) (i:=c) (y:=cap) ⟨by omega,by omega⟩,run_sliceBound (P:=P) (i:=b) (y:=c.toNat) ⟨q1,by omega⟩]) (by simp [hze]) (by simp [hye]) _ (fun k=>rfl) _ rfl _
theorem zot (hΓ:zbb P Γ) (I:InvH N C h ρ F M g a w) {t:TypeId} {x:Operand} {lo hi:Option Operand} {m:Operand} (ho:o.op = .slice t x lo hi (some m)) {val:Operand→AV} (hv:∀ y,y∈o.op.operands→Rel h ρ (val y) (a.eval y)) {r:R}
 (hr:zks Γ t (val x) (optV val lo) (optV val hi) (val m)=some r) (hc:∀ q,r.cs=some q→q):Good P N C h ρ F M g a o w r:=by
 unfold zks at hr
 cases hT:tyOf Γ t with
 | none=>simp [hT] at hr
 | some T=>
 simp only [hT] at hr
 cases hd:T.d <;> simp only [hd] at hr <;> (try (cases hr;done))
 rename_i e
 cases hE:tyOf Γ e with
 | none=>simp [hE] at hr
 | some E=>
 simp only [hE] at hr
 have hu:=(hΓ t T hT).za4 hd
 have hEy:=hΓ e E hE
 have hx:Rel h ρ (val x) (a.eval x):=hv x (by rw [ho];simp [Op.operands])
 cases hvx:val x <;> simp only [hvx] at hr <;> (try (cases hr;done))
 rename_i sz n el
 cases hb:Nat.beq sz E.size with
 | false=>simp [hb] at hr
 | true=>
 simp only [hb] at hr
 have hsz:=Nat.eq_of_beq_eq_true hb
 rw [hvx] at hx
 obtain ⟨ad,cap,hax,hcap⟩:=zg6 hx
 rw [hax] at hx
 cases lo with
 | some y=>simp [optV] at hr
 | none=>
 cases hi with
 | none=>simp [optV] at hr
 | some y=>
 have hy:=hv y (by rw [ho];simp [Op.operands])
 have hm:=hv m (by rw [ho];simp [Op.operands])
 simp only [optV] at hr
 cases hvy:val y <;> simp only [hvy] at hr <;> (try (cases hr;done))
 rename_i kk b
 cases kk <;> (try simp only [] at hr) <;> (try (cases hr;done))
 cases hvm:val m <;> simp only [hvm] at hr <;> (try (cases hr;done))
 rename_i kk c
 cases kk <;> (try simp only [] at hr) <;> (try (cases hr;done))
 cases hr
 obtain ⟨q1,q2,q3⟩:0≤b∧b≤c∧c≤(n:Int):=hc _ rfl
 rw [hvy] at hy
 rw [hvm] at hm
 generalize hye:a.eval y=yv at hy
 generalize hme:a.eval m=mv at hm
 cases hy;cases hm
 refine Good.same I (.inl ?_) rfl (zo9 hx (hh:=b.toNat) (c:=c.toNat) (by omega) (by omega))
 unfold execOp
 have hrun:(Instr.sliceBounds true n cap none (some (.int .i64 b)) (some (.int .i64 c))).run P w = .ok (0,b.toNat,c.toNat) w:=by
  simp only [Instr.sliceBounds,Sem.run_bind,Sem.run_pure,Result.andThen_ok,if_true,run_sliceBound (P:=P) (i:=c) (y:=cap) ⟨by omega,by omega⟩,run_sliceBound (P:=P) (i:=b) (y:=c.toNat) ⟨q1,by omega⟩]
 simp only [ho,hax,hye,hme,Option.map_none,Option.map_some,Instr.sliceAt,Instr.slice,Sem.run_bind,run_underlying hu,Result.andThen_ok,hrun,hEy.zcP w,Sem.run_pure,← hsz]
 rfl
theorem execOp_builtin {a:Act} {o:Oper} {b:Builtin} {args:Array Operand} {ts:Array TypeId} (ho:o.op = .call { callee:=.builtin b,args:=args,argTypes:=ts }) {v:Value} {w w':World}
 (hr:(builtin b ts o.type (args.map fun|.const _=>true|_=>false) (args.map a.eval)).run P w = .ok (.value v) w'):(execOp a.eval o).run P w = .ok (.value v) w':=by
 unfold execOp
 simp only [ho,resolve,invoke,Sem.run_bind,Sem.run_pure,Result.andThen_ok]
 exact hr
theorem zj0 (z:Array Value) (n k:Nat) (hz:0<z.size):Builtin.zeroCells z n++Builtin.zeroCells z k=madeCells z ((n+k) * z.size):=by
 apply Array.ext
 · simp [size_zeroCells,size_madeCells,Nat.add_mul]
 · intro i h1 h2
   simp only [size_madeCells] at h2
   rw [Array.getElem_append]
   split
   · simp [Builtin.zeroCells,madeCells]
   · rename_i hlt
     simp only [size_zeroCells,Nat.not_lt] at hlt
     simp only [Builtin.zeroCells,madeCells,Array.getElem_map,Array.getElem_range]
     have:(i - (Array.map (fun i=>z[i % z.size]!) (Array.range (n * z.size))).size) % z.size=i % z.size:=by
      simp only [Array.size_map,Array.size_range]
      obtain ⟨q,rfl⟩:∃ q,i=n * z.size+q:=⟨i - n * z.size,by omega⟩
      rw [show n * z.size+q - n * z.size=q by omega,Nat.mul_comm,Nat.mul_add_mod]
     rw [this]
theorem znq (hΓ:zbb P Γ) (I:InvH N C h ρ F M g a w) {t tn:TypeId} {x y:Operand} (ho:o.op = .call { callee:=.builtin .append,args:=#[x,y],argTypes:=#[t,tn] }) {s v:AV} (hx:Rel h ρ s (a.eval x)) (hy:Rel h ρ v (a.eval y)) {r:R}
 (hr:zjb Γ mg o t tn s v=some r) (hm:∀ id,id∈r.rd→M id=mg id) (hc:∀ q,r.cs=some q→q):Good P N C h ρ F M g a o w r:=by
 unfold zjb at hr
 split at hr
 rotate_left
 · cases hr
 rename_i T hT
 split at hr
 rotate_left
 · cases hr
 rename_i e hd
 split at hr
 rotate_left
 · cases hr
 rename_i E hE
 split at hr
 · cases hr
 rename_i sz0 hsz0
 split at hr
 rotate_left
 · cases hr
 rename_i TN hTN
 split at hr
 rotate_left
 · cases hr
 rename_i hdn'
 split at hr
 rotate_left
 · cases hr
 rename_i n
 split at hr
 rotate_left
 · cases hr
 rename_i d hf
 cases hr
 obtain ⟨hn0,hq3,hq4⟩:=hc _ rfl
 have hdn:=(hm d (by simp)).trans (zcp hf).2
 have hEy:=hΓ e E hE
 obtain ⟨i,h1,h2,h3,h4⟩:=hEy.info
 have hu:=(hΓ t T hT).za4 hd
 have hun:=(hΓ tn TN hTN).zel hdn'
 generalize hx':a.eval x=xv at hx
 generalize hy':a.eval y=yv at hy
 cases hx;cases hy
 obtain ⟨k,rfl⟩:=Int.eq_ofNat_of_zero_le (show 0≤n by omega)
 rw [Int.toNat_natCast] at hq3 hq4 ⊢
 have hk:0<k:=by omega
 have hzc:=zbd hEy
 have hzs:E.zero.toArray.size=E.size:=by simp [hEy.len]
 have hfit:Builtin.nextslicecap (0+k) 0 * i.bytes≤281474976710656:=growslice_fits (by omega) (by rw [h3,Nat.zero_add];exact hq3)
 have hold:(Builtin.firstCells i.size 0 (.slice none 0 0)).run P w.drew = .ok ([]:List Value).toArray w.drew:=run_firstCells_none (P:=P) (w:=w.drew) i.size 0 0 0
 have hrun:=Lib.run_append_grow_zeros (P:=P) w t tn o.type e i E.zeroV .i64 .i64 hu hun h1 h4 none 0 0 [] hold k hk (by rw [h2];omega) (by omega) (by omega) (by rw [h3];omega) hfit
 rw [hzc,Nat.zero_add] at hrun
 generalize hG:grownCap w k 0 e=G at hrun
 have hGn:k≤G:=by rw [← hG];exact grownCap_ge w _ _ _
 have hGm:G≤maxLen:=by rw [← hG];exact grownCap_le_maxLen w k 0 e (by unfold maxLen;omega)
 have hcells:([]:List Value).toArray++Builtin.zeroCells E.zero.toArray k++Builtin.zeroCells E.zero.toArray (G - k)=madeCells E.zero.toArray (G * E.size):=by
  rw [show ([]:List Value).toArray++Builtin.zeroCells E.zero.toArray k=Builtin.zeroCells E.zero.toArray k by simp,zj0 _ _ _ (by rw [hzs];omega),hzs]
  congr 2;omega
 rw [hcells] at hrun
 have hmade:RelL h ρ (repL (zeros E.zero) G) (madeCells E.zero.toArray (G * E.size)).toList:=RelL.made hEy h ρ G
 have I':=I.drew.zek hdn (.cells (madeCells E.zero.toArray (G * E.size)) e) (.sl k E.size (.slice (some ⟨w.heap.size,0,none⟩) k G)) (.buf e E.size k (fun _=>zeros E.zero)) (fun b hb=>(Option.some.inj hb).symm)
  (zbJ.zmi (w:=w.drew) hGn hGm (size_madeCells _ _) rfl (by
   have:k * E.size≤G * E.size:=Nat.mul_le_mul_right _ hGn
   rw [List.length_take,Array.length_toList,size_madeCells];omega) (fun _ _=>by rw [zbu,hEy.len]) (fun x hx=>by
   have hx':=List.mem_of_mem_take hx
   simp only [Array.mem_toList_iff,madeCells,Array.mem_map,Array.mem_range] at hx'
   obtain ⟨k,hk,rfl⟩:=hx'
   have hpos:0<E.size:=by omega
   have hlt:k % E.zero.length<E.zero.length:=by rw [hEy.len];exact Nat.mod_lt _ hpos
   have:E.zero.toArray[k % E.zero.toArray.size]! = E.zero[k % E.zero.length]:=by simp [hlt]
   rw [this]
   exact (zc1 (Rel.zeL (fun _=>none) ρ0 _) (hEy.one _ (List.getElem_mem hlt))).1)
   (fun i j c x hi hj hx=>by
    rw [List.getElem?_take] at hx
    split at hx
    rotate_left
    · cases hx
    rename_i hlt
    have hj':j<E.size:=by rw [← hEy.len,← zbu];exact (List.getElem?_eq_some_iff.1 hj).1
    have hrep:(repL (zeros E.zero) G)[i * E.size+j]? = some c:=by
     have hb:i * E.size+j<G * E.size:=Nat.lt_of_lt_of_le hlt (Nat.mul_le_mul_right _ hGn)
     rw [zg7 (by rw [zbu,hEy.len];exact hb),zbu,hEy.len]
     rw [Nat.mul_comm,Nat.mul_add_mod,Nat.mod_eq_of_lt hj'];exact hj
    have hr0:=(RelL.made hEy h ρ0 G)
    exact hr0.2 _ c x hrep hx))
 refine ⟨.slice (some ⟨w.heap.size,0,none⟩) k G,_,_,_,.inl (execOp_builtin ho (v:=.slice (some ⟨w.heap.size,0,none⟩) k G) ?_),I',.buf _ _ _ _ _ _ _ (zah _ _ _) (Nat.le_refl _) rfl (fun _=>rfl)⟩
 simp only [builtin,List.map_toArray,List.map_cons,List.map_nil,hx',hy',Sem.run_bind,hrun,Result.andThen_ok,Sem.run_pure]
theorem ziG {t:TypeId} {T:TyD} (hT:TyOk P t T) {x:Value} {n:Int} (ty:TypeId) (ts:Array TypeId) (hts:ts[0]? = some t)
 (hx:(∃ e,T.d = .slice e∧∃ ad cap,∃ k:Nat,n=k∧x = .slice ad k cap)∨(∃ k e,T.d = .map k e∧((x = .map none∧n=0)∨∃ r es cl,x = .map (some r)∧w.heap[r]? = some (.map es cl)∧n=(es.size:Int)))) :
 (Builtin.len_ ts ty #[x]).run P w = .ok (.int .i64 n) w:=by
 rcases hx with ⟨e,hd,ad,cap,k,rfl,rfl⟩|⟨k,e,hd,⟨rfl,rfl⟩|⟨r,es,cl,rfl,hb,rfl⟩⟩
 · have hu:=hT.za4 hd
   simp [Builtin.len_,hts,run_underlying hu,goInt]
 · have hu:=hT.zgF hd
   simp [Builtin.len_,hts,run_underlying hu,goInt]
 · have hu:=hT.zgF hd
   simp only [Builtin.len_,hts,List.getElem?_toArray,List.getElem?_cons_zero,Sem.run_bind,run_underlying hu,Result.andThen_ok,MapKept.run_getObj_map hb,Sem.run_pure,goInt]
theorem zn6 {xs:List AV}:∀ {vs:List Value} {p m:Int},maxes p xs=some m→RelL h ρ xs vs→(vs.foldlM Builtin.max2 (.int .i64 p)).run P w = .ok (.int .i64 m) w:=by
 induction xs with
 | nil=>
  intro vs p m hm H
  have:vs=[]:=List.eq_nil_of_length_eq_zero (by simpa using H.1)
  subst this
  simp [maxes] at hm;subst hm;rfl
 | cons x xs ih=>
  intro vs p m hm H
  obtain ⟨v,r,rfl,hv,hr⟩:=H.zdC
  cases x <;> (try simp only [maxes] at hm) <;> (try (cases hm;done))
  rename_i kk b
  cases kk <;> (try simp only [maxes] at hm) <;> (try (cases hm;done))
  cases hv
  have h2:(Builtin.max2 (.int .i64 p) (.int .i64 b)).run P w = .ok (.int .i64 (max p b)) w:=by
   simp only [Builtin.max2,Sem.run_pure]
   congr 2
   split <;> omega
  rw [List.foldlM_cons,Sem.run_bind,h2,Result.andThen_ok]
  exact ih hm hr
theorem zn4 {xs:List AV}:∀ {vs:List Value} {p m:Int},mines p xs=some m→RelL h ρ xs vs→(vs.foldlM Builtin.min2 (.int .i64 p)).run P w = .ok (.int .i64 m) w:=by
 induction xs with
 | nil=>
  intro vs p m hm H
  have:vs=[]:=List.eq_nil_of_length_eq_zero (by simpa using H.1)
  subst this
  simp [mines] at hm;subst hm;rfl
 | cons x xs ih=>
  intro vs p m hm H
  obtain ⟨v,r,rfl,hv,hr⟩:=H.zdC
  cases x <;> (try simp only [mines] at hm) <;> (try (cases hm;done))
  rename_i kk b
  cases kk <;> (try simp only [mines] at hm) <;> (try (cases hm;done))
  cases hv
  have h2:(Builtin.min2 (.int .i64 p) (.int .i64 b)).run P w = .ok (.int .i64 (min p b)) w:=by
   simp only [Builtin.min2,Sem.run_pure]
   congr 2
   split <;> omega
  rw [List.foldlM_cons,Sem.run_bind,h2,Result.andThen_ok]
  exact ih hm hr
theorem zdZ {val:Operand→AV}:∀ (xs:List Operand),(∀ x∈xs,Rel h ρ (val x) (a.eval x))→RelL h ρ (zfb val xs) (xs.map a.eval)
 | [],_=>RelL.nil _ _
 | x::xs,hx=>RelL.cons (hx x (by simp)) (zdZ xs (fun y hy=>hx y (by simp [hy])))
theorem zep {val:Operand→AV}:∀ (xs:List Operand),zfb val xs=xs.map val
 | []=>rfl
 | x::xs=>by simp [zfb,zep xs]
theorem zdY {o:Oper} {c:Callee} {args:Array Operand} {ts:Array TypeId} (ho:o.op = .call { callee:=c,args:=args,argTypes:=ts }) {x:Operand} (hx:x∈args.toList):x∈o.op.operands:=by
 rw [ho]
 simp only [Op.operands,Call.operands]
 exact Array.mem_append.2 (.inr (by simpa using hx))
theorem ev_len (hΓ:zbb P Γ) (I:InvH N C h ρ F M g a w) {y:Operand} {t:TypeId} {ts:List TypeId} {args:Array Operand} {tsa:Array TypeId} (ho:o.op = .call { callee:=.builtin .len,args:=args,argTypes:=tsa }) (hts:tsa.toList=t::ts) (hargs:args.toList=[y])
 {x:AV} (hx:Rel h ρ x (a.eval y)) {r:R} (hr:zes Γ mg o .len (t::ts) [x]=some r) (hm:∀ id,id∈r.rd→M id=mg id) (hc:∀ q,r.cs=some q→q):Good P N C h ρ F M g a o w r:=by
 have ha:args.map a.eval = #[a.eval y]:=by
  apply Array.ext';simp [hargs]
 have ht0:tsa[0]? = some t:=by rw [← Array.getElem?_toList,hts];rfl
 simp only [zes] at hr
 cases hT:tyOf Γ t with
 | none=>simp [hT] at hr
 | some T=>
 simp only [hT] at hr
 have hTy:=hΓ t T hT
 have fin:∀ {n:Int},(Builtin.len_ tsa o.type #[a.eval y]).run P w = .ok (.int .i64 n) w→∀ {rd:List Nat} {q:Option Prop},Good P N C h ρ F M g a o w ⟨.int .i64 n,rd,[],q,none⟩:=by
  intro n hrun rd q
  refine Good.same I (.inl (execOp_builtin ho ?_)) rfl (.int _ _ _)
  simp only [builtin,ha,Sem.run_bind,hrun,Result.andThen_ok,Sem.run_pure]
 cases hd:T.d <;> simp only [hd] at hr <;> (try (cases hr;done))
 case slice e=>
  have sl:∀ {ad:Option Addr} {k cap:Nat},a.eval y = .slice ad k cap→(Builtin.len_ tsa o.type #[a.eval y]).run P w = .ok (.int .i64 (k:Int)) w:=fun he=>by
   rw [he];exact ziG hTy _ _ ht0 (.inl ⟨e,hd,_,_,_,rfl,rfl⟩)
  cases x <;> simp only [zoB] at hr <;> (try (cases hr;done))
  case nilS=>
   cases hr
   have:a.eval y = .slice none 0 0:=by generalize a.eval y=v at hx;cases hx;rfl
   exact fin (by simpa using sl this)
  case ro sz n el=>
   cases hr
   obtain ⟨ad,cap,h1,_⟩:=zg6 hx
   exact fin (sl h1)
  case pin hp0 q=>
   cases q <;> simp only [zoB] at hr <;> (try (cases hr;done))
   rename_i sz n el
   cases hr
   have h1:∃ ad cap,a.eval y = .slice ad n cap:=by
    generalize a.eval y=v at hx
    cases hx with
    | pin _ _ _ _ hl hv=>
     obtain ⟨ad,cap,h1,_⟩:=zg6 hv
     exact ⟨ad,cap,h1⟩
   obtain ⟨ad,cap,h1⟩:=h1
   exact fin (sl h1)
  case buf id n=>
   cases hg:mg id with
   | none=>simp [hg] at hr
   | some bl=>
    cases bl <;> simp only [hg] at hr <;> (try (cases hr;done))
    case buf ty sz n' el=>
     cases hr
     obtain rfl:=hc _ rfl
     obtain ⟨v0,us,e1,e2,_⟩:=I.blk id _ ((hm id (by simp)).trans hg)
     have he:a.eval y=v0:=by
      generalize a.eval y=v at hx
      cases hx with
      | buf _ _ _ _ _ _ _ hb hle k1 he=>rw [e1] at hb;cases hb;exact he rfl
     rcases e2.2 with ⟨rfl,h0⟩|⟨b,cap,cur,rfl,_⟩
     · subst h0;exact fin (sl he)
     · exact fin (sl he)
    case bufk ty sz n' c el=>
     cases hr
     obtain rfl:=hc _ rfl
     obtain ⟨v0,us,e1,e2,_⟩:=I.blk id _ ((hm id (by simp)).trans hg)
     have he:a.eval y=v0:=by
      generalize a.eval y=v at hx
      cases hx with
      | buf _ _ _ _ _ _ _ hb hle k1 he=>rw [e1] at hb;cases hb;exact he rfl
     rcases e2.2 with ⟨rfl,h0⟩|⟨b,cap,cur,rfl,_⟩
     · subst h0;exact fin (sl he)
     · exact fin (sl he)
  case sb id n a0 b0=>
   cases hg:mg id with
   | none=>simp [hg] at hr
   | some bl=>
    cases bl <;> simp only [hg] at hr <;> (try (cases hr;done))
    rename_i ty sz n' el
    cases hr
    obtain rfl:=hc _ rfl
    obtain ⟨v0,us,e1,e2,_⟩:=I.blk id _ ((hm id (by simp)).trans hg)
    obtain ⟨ad,cap,he⟩:∃ ad cap,a.eval y = .slice ad (b0 - a0) cap:=by
     generalize a.eval y=v at hx
     cases hx with
     | sb _ _ _ _ _ _ _ _ _ hb hle k1 he=>rw [e1] at hb;cases hb;obtain ⟨g0,cap,_,h2⟩:=he rfl;exact ⟨_,_,h2⟩
    exact fin (sl he)
  case gb id n=>
   cases hg:mg id with
   | none=>simp [hg] at hr
   | some bl=>
    cases bl <;> simp only [hg] at hr <;> (try (cases hr;done))
    rename_i tS ty sz n' m el
    cases hr
    obtain rfl:=hc _ rfl
    obtain ⟨v0,rows,e1,e0,e2,_⟩:=I.blk id _ ((hm id (by simp)).trans hg)
    have he:a.eval y=v0:=by
     generalize a.eval y=v at hx
     cases hx with
     | gb _ _ _ _ _ hb hgg k1=>rw [e1] at hb;cases hb;exact (hgg _ _ _ rfl).2 e0.symm
    rcases e2.2 with ⟨rfl,h0⟩|⟨b,cap,cur,rfl,_⟩
    · subst h0;exact fin (sl he)
    · exact fin (sl he)
  case gr' id i k=>
   cases hg:mg id with
   | none=>simp [hg] at hr
   | some bl=>
    cases bl <;> simp only [hg] at hr <;> (try (cases hr;done))
    rename_i tS ty sz n m el
    cases hr
    obtain ⟨rfl,hin⟩:=hc _ rfl
    obtain ⟨v0,rows,e1,e0,e2,e4,_⟩:=I.blk id _ ((hm id (by simp)).trans hg)
    obtain ⟨m',v',g1,g2,g3⟩:∃ m' v',rows[i]? = some (m',v')∧m i≤m'∧(m i=m'→a.eval y=v'):=by
     generalize a.eval y=v at hx
     cases hx with
     | gr' _ _ _ _ _ _ hb hgg k1=>rw [e1] at hb;cases hb;exact hgg _ _ _ rfl
    obtain ⟨q0,_,xs,q2,_⟩:=e4 i _ g1
    simp only at q0 q2
    subst q0
    have he:=g3 rfl
    rcases q2.2 with ⟨rfl,h0⟩|⟨b,cap,cur,rfl,_⟩
    · have:=sl he;rw [h0] at *;exact fin this
    · exact fin (sl he)
 case map k e=>
  cases x <;> simp only [zoB] at hr <;> (try (cases hr;done))
  case nilMap=>
   cases hr
   have:a.eval y = .map none:=by generalize a.eval y=v at hx;cases hx;rfl
   exact fin (by rw [this];exact ziG hTy _ _ ht0 (.inr ⟨k,e,hd,.inl ⟨rfl,rfl⟩⟩))
  case rom z dom el n=>
   cases hr
   generalize hy:a.eval y=v at hx fin
   cases hx with
   | romN=>exact fin (ziG hTy _ _ ht0 (.inr ⟨k,e,hd,.inl ⟨rfl,rfl⟩⟩))
   | rom _ _ _ _ _ b es clock ks e2 _ _ e5=>
    exact fin (ziG hTy _ _ ht0 (.inr ⟨k,e,hd,.inr ⟨b,_,_,rfl,I.hp _ _ e2,by simp [e5]⟩⟩))
  case mp id=>
   cases hg:mg id with
   | none=>simp [hg] at hr
   | some bl=>
    cases bl <;> simp only [hg] at hr <;> (try (cases hr;done))
    rename_i z dom el n
    cases hr
    obtain ⟨b,es,clock,ks,e1,e2,_,_,e5,_⟩:=I.blk id _ ((hm id (by simp)).trans hg)
    generalize hy:a.eval y=v at hx fin
    cases hx with
    | mp _ _ li b' hb hmb=>
     rw [e1] at hb;cases hb;cases hmb
     exact fin (ziG hTy _ _ ht0 (.inr ⟨k,e,hd,.inr ⟨b,_,_,rfl,e2,by simp [e5]⟩⟩))
theorem zlr (I:InvH N C h ρ F M g a w) {b:Builtin} {args:Array Operand} {tsa:Array TypeId} (ho:o.op = .call { callee:=.builtin b,args:=args,argTypes:=tsa }) {p m:Int} {xs:List AV} (hx:RelL h ρ (.int .i64 p::xs) (args.toList.map a.eval))
 (hb:(b = .max∧maxes p xs=some m)∨(b = .min∧mines p xs=some m)):Good P N C h ρ F M g a o w (R.val (.int .i64 m)):=by
 obtain ⟨v,r,hvr,hv,hr⟩:=hx.zdC
 cases hv
 have ha:(args.map a.eval).toList = .int .i64 p::r:=by simpa using hvr
 refine Good.same I (.inl (execOp_builtin ho ?_)) rfl (.int _ _ _)
 rcases hb with ⟨rfl,hm⟩|⟨rfl,hm⟩
 · simp only [builtin,Builtin.max_,ha,Sem.run_bind,zn6 (P:=P) (w:=w) hm hr,Result.andThen_ok,Sem.run_pure]
 · simp only [builtin,Builtin.min_,ha,Sem.run_bind,zn4 (P:=P) (w:=w) hm hr,Result.andThen_ok,Sem.run_pure]
end
end Go.Av
end
/- The evaluator is right: slices of slices that are all owned. -/
section
set_option linter.all false
namespace Go.Av
section
variable {P:Program} {N:Nat} {C:Ctx} {h:Hp} {ρ:Rho} {F:Fr} {M:Mm} {g:Nat} {a:Act} {w:World} {Γ:Tys} {mg:Mm} {o:Oper}
theorem zdz {ty sz n b cap:Nat} {xs:List Value} (H:w.ownsRow 0 ty sz (.slice (some ⟨b,0,none⟩) n cap) n xs) (off:Nat) (ys:List Value) (hfit:off+ys.length≤n * sz) :
 ∃ cur:Array Value,w.heap[b]? = some (.cells cur ty (0,0))∧off+ys.length≤cur.size ∧
  (w.setRow b (cur.toList.take off++ys++cur.toList.drop (off+ys.length)).toArray).ownsRow 0 ty sz (.slice (some ⟨b,0,none⟩) n cap) n (xs.take off++ys++xs.drop (off+ys.length)):=by
 obtain ⟨q1,q2⟩:=H
 rcases q2 with ⟨q2,_⟩|⟨b',cap',cur,q2,_,q3,q4,q5,q6,q7⟩
 · cases q2
 cases q2
 have hcapsz:n * sz≤cap * sz:=Nat.mul_le_mul_right _ q4
 have hfit2:off+ys.length≤cur.toList.length:=by simp [q6];omega
 refine ⟨cur,q3,by simpa using hfit2,?_,.inr ⟨b,cap,_,rfl,Nat.zero_le _,setRow_heap w b _ _ ty _ q3,q4,q5,?_,?_⟩⟩
 · rw [ziE _ _ _ (by omega)];exact q1
 · have:=ziE cur.toList ys off hfit2
   simp only [List.size_toArray]
   rw [this];simpa using q6
 · apply List.ext_getElem?
   intro k
   rw [List.getElem?_take,zeH _ _ _ hfit2,zeH xs ys off (by omega)]
   by_cases hk:k<n * sz
   · have:xs[k]? = cur.toList[k]? := by rw [← q7,List.getElem?_take,if_pos hk]
     rw [if_pos hk,this]
   · have:xs[k]? = none:=by simp;omega
     rw [if_neg hk,if_neg (by omega),this]
theorem zi8 (hΓ:zbb P Γ) (I:InvH N C h ρ F M g a w) {t:TypeId} {p i:Operand} (ho:o.op = .indexAddr t p i) {T:TyD} (hT:tyOf Γ t=some T) {e:TypeId} (hd:T.d = .slice e)
 {E:TyD} (hE:tyOf Γ e=some E) {id n:Nat} (hx:Rel h ρ (.gb id n) (a.eval p)) {tS ty sz n':Nat} {m:Nat→Nat} {el:Nat→Nat→List AV} (hm:M id=some (.grid tS ty sz n' m el)) (hsz:1=E.size) {q:Int} (hi:Rel h ρ (.int .i64 q) (a.eval i)) (hq:n=n'∧0≤q∧q<(n':Int)) :
 Good P N C h ρ F M g a o w ⟨.gp id n' q.toNat,[id],[],some (n=n'∧0≤q∧q<(n':Int)),none⟩:=by
 obtain ⟨rfl,hq⟩:=hq
 have hu:=(hΓ t T hT).za4 hd
 obtain ⟨v0,rows,e1,e2,e3,_⟩:=I.blk id _ hm
 generalize hp:a.eval p=pv at hx
 generalize hj:a.eval i=iv at hi
 cases hi
 cases hx with
 | gb _ _ _ li v hb hgg h1=>
  rw [e1] at hb;cases hb
  obtain rfl:=(hgg _ _ _ rfl).2 e2.symm
  rcases e3.2 with ⟨_,h0⟩|⟨b,cap,cur,rfl,_,q3,q4,q5,q6,q7⟩
  · omega
  refine Good.same I (x:=.pointer (some ⟨b,q.toNat,none⟩)) (.inl ?_) rfl (.gp _ _ _ _ _ _ e1 (fun v1 sz1 rows1 ee=>by cases ee;exact ⟨Nat.le_of_eq e2.symm,fun _=>⟨b,cap,rfl,rfl⟩⟩))
  unfold execOp
  simp only [ho,hp,hj,Instr.indexAt,asIntOf,Sem.run_bind,run_underlying hu,Result.andThen_ok,Sem.run_pure]
  rw [if_pos hq]
  simp only [Sem.run_bind,(hΓ _ E hE).zcP w,Result.andThen_ok,Sem.run_pure,Addr.add_lit,Nat.zero_add,← hsz,Nat.mul_one]
theorem zi7 (hΓ:zbb P Γ) (I:InvH N C h ρ F M g a w) {t:TypeId} {p i:Operand} (ho:o.op = .indexAddr t p i) {T:TyD} (hT:tyOf Γ t=some T) {e:TypeId} (hd:T.d = .slice e)
 {E:TyD} (hE:tyOf Γ e=some E) {id i0 k:Nat} (hx:Rel h ρ (.gr' id i0 k) (a.eval p)) {tS ty sz n':Nat} {m:Nat→Nat} {el:Nat→Nat→List AV} (hm:M id=some (.grid tS ty sz n' m el)) (hsz:sz=E.size) {q:Int} (hi:Rel h ρ (.int .i64 q) (a.eval i)) (hq:k=m i0∧i0<n'∧0≤q∧q<(m i0:Int)) :
 Good P N C h ρ F M g a o w ⟨.ge id i0 k q.toNat 0,[id],[],some (k=m i0∧i0<n'∧0≤q∧q<(m i0:Int)),none⟩:=by
 subst hsz
 obtain ⟨rfl,hin,hq⟩:=hq
 have hu:=(hΓ t T hT).za4 hd
 obtain ⟨v0,rows,e1,e2,e3,e4,_⟩:=I.blk id _ hm
 generalize hp:a.eval p=pv at hx
 generalize hj:a.eval i=iv at hi
 cases hi
 cases hx with
 | gr' _ _ _ _ li v hb hgg h1=>
  rw [e1] at hb;cases hb
  obtain ⟨m',v',hi',hle,he⟩:=hgg _ _ _ rfl
  obtain ⟨q0,_,xs,q2,_⟩:=e4 i0 _ hi'
  simp only at q0 q2
  subst q0
  obtain rfl:=he rfl
  rcases q2.2 with ⟨_,h0⟩|⟨b,cap,cur,rfl,_,q3,q4,q5,q6,q7⟩
  · omega
  refine Good.same I (x:=.pointer (some ⟨b,q.toNat * E.size,none⟩)) (.inl ?_) rfl (.ge _ _ _ _ _ _ _ _ e1 ⟨_,rfl⟩ (fun v1 sz1 rows1 ee=>by cases ee;exact ⟨_,_,hi',Nat.le_refl _,fun _=>⟨b,cap,rfl,rfl⟩⟩))
  unfold execOp
  simp only [ho,hp,hj,Instr.indexAt,asIntOf,Sem.run_bind,run_underlying hu,Result.andThen_ok,Sem.run_pure]
  rw [if_pos hq]
  simp only [Sem.run_bind,(hΓ _ E hE).zcP w,Result.andThen_ok,Sem.run_pure,Addr.add_lit,Nat.zero_add]
theorem zl7 (hΓ:zbb P Γ) (I:InvH N C h ρ F M g a w) {t:TypeId} {p x:Operand} (ho:o.op = .store t p x) {T:TyD} (hT:tyOf Γ t=some T) {v:AV} (hv:Rel h ρ v (a.eval x)) {xs:List AV} (hx:zeX v=some xs)
 (hl:xs.length=T.size) (hcl:zjl xs=true) {id i k j off:Nat} (hp:Rel h ρ (.ge id i k j off) (a.eval p)) {tS ty sz n:Nat} {m:Nat→Nat} {e:Nat→Nat→List AV} {es:List AV} (hm:M id=some (.grid tS ty sz n m e)) (hlay0:layE off xs sz (e i j)=some es) (hne:xs≠[])
 (hn:k=m i∧i<n∧j<m i):Good P N C h ρ F M g a o w ⟨.any,[id],[(id,.grid tS ty sz n m (fun a b=>if a=i∧b=j then es else e a b))],some (k=m i∧i<n∧j<m i),none⟩:=by
 obtain ⟨rfl,hin,hj⟩:=hn
 obtain ⟨ys,h1,h2,h3⟩:=zd3 hx hv
 obtain ⟨v0,rows,e1,e2,e3,e4,e5,e6⟩:=I.blk id _ hm
 generalize hp':a.eval p=pv at hp
 cases hp with
 | ge _ _ _ _ _ _ li v hb _ hgg=>
  rw [e1] at hb;cases hb
  obtain ⟨m',v',hi,hle,he⟩:=hgg _ _ _ rfl
  obtain ⟨q0,q1,us,q2,q3,q4,q5⟩:=e4 i _ hi
  simp only at q0 q1 q2
  subst q0
  obtain ⟨b,cap,rfl,rfl⟩:=he rfl
  have hlay:=zk7 hlay0 (q3 j hj)
  obtain ⟨l1,l2,l3⟩:=zfd hlay
  rw [if_neg hne,q3 j hj] at l2
  have hrow:j * sz+sz≤m i * sz:=by
   calc j * sz+sz=(j+1) * sz:=by rw [Nat.add_mul,Nat.one_mul]
    _≤m i * sz:=Nat.mul_le_mul_right _ hj
  have hys:ys.length=xs.length:=h2.1
  have hfit:j * sz+off+ys.length≤m i * sz:=by omega
  obtain ⟨cur,c1,c2,c3⟩:=zdz q2 (j * sz+off) ys hfit
  have hrun:=zeC (w:=w) (hΓ t T hT) h1 (by rw [h2.1,hl]) h3 (off:=j * sz+off) c1 c2
  have hus:us.length=m i * sz:=q2.1
  refine ⟨undef,w.setRow b (cur.toList.take (j * sz+off)++ys++cur.toList.drop (j * sz+off+ys.length)).toArray,h,ρ,.inr ⟨?_,rfl⟩,I.zg2 e1 _ rfl rfl rfl (by simp) (fun k hk=>setRow_other w b k _ (fun ee=>hk (.inr ⟨_,List.mem_of_getElem? hi,by simp [Value.ownBlock,ee]⟩))) ?_,.any _ _⟩
  · unfold execOp
    simp only [ho,Instr.storeAt,hp',Instr.sureAddr,Sem.run_bind,Sem.run_pure,Result.andThen_ok,hrun]
  · refine ⟨v0,rows,e1,e2,zbp e3 (fun b' hb'=>setRow_other w b b' _ (fun ee=>e6 i _ b hi (by simp [Value.ownBlock]) (by rw [hb',ee]))),fun i' x' hx'=>?_,e5,e6⟩
    obtain ⟨r0,r1,xs',r2,r3,r4,r5⟩:=e4 i' x' hx'
    by_cases hii:i'=i
    · subst hii
      rw [hi] at hx';cases hx'
      refine ⟨rfl,r1,_,c3,fun jj hjj=>?_,fun u hu=>?_,fun jj kk c u hjj hc hu=>?_⟩
      · by_cases hjk:jj=j
        · subst hjk;simp only [and_self,if_true];rw [l1,q3 jj hjj]
        · simp only [hjk,and_false,if_false];exact q3 jj hjj
      · rw [List.mem_append,List.mem_append] at hu
        rcases hu with (hu|hu)|hu
        · exact q4 u (List.mem_of_mem_take hu)
        · exact h3 u hu
        · exact q4 u (List.mem_of_mem_drop hu)
      · rw [zeH _ _ _ (by omega)] at hu
        by_cases hjk:jj=j
        · subst hjk
          simp only [and_self,if_true] at hc
          rw [l3 kk] at hc
          by_cases hkk:off≤kk∧kk<off+xs.length
          · rw [if_pos hkk] at hc
            rw [if_pos (by omega),show jj * sz+kk - (jj * sz+off)=kk - off by omega] at hu
            exact (h2.2 _ c u hc hu).zdu (zev (zfA hcl) hc)
          · rw [if_neg hkk] at hc
            rw [if_neg (by omega)] at hu
            exact q5 jj kk c u hjj hc hu
        · simp only [hjk,and_false,if_false] at hc
          have hkk:kk<sz:=by rw [← q3 jj hjj];exact (List.getElem?_eq_some_iff.1 hc).1
          have hout:¬ (j * sz+off≤jj * sz+kk∧jj * sz+kk<j * sz+off+ys.length):=by
           rintro ⟨p1,p2⟩
           rcases Nat.lt_or_gt_of_ne hjk with hlt|hgt
           · have:jj * sz+sz≤j * sz:=by
              calc jj * sz+sz=(jj+1) * sz:=by rw [Nat.add_mul,Nat.one_mul]
               _≤j * sz:=Nat.mul_le_mul_right _ hlt
             omega
           · have:j * sz+sz≤jj * sz:=by
              calc j * sz+sz=(j+1) * sz:=by rw [Nat.add_mul,Nat.one_mul]
               _≤jj * sz:=Nat.mul_le_mul_right _ hgt
             omega
          rw [if_neg hout] at hu
          exact q5 jj kk c u hjj hc hu
    · refine ⟨r0,r1,xs',zbp r2 (fun b' hb'=>setRow_other w b b' _ (fun ee=>hii (e5 i' i _ _ b' hx' hi hb' (by simp [Value.ownBlock,ee])))),fun jj hjj=>?_,r4,fun jj kk c u hjj hc hu=>?_⟩
      · simp only [hii,false_and,if_false];exact r3 jj hjj
      · simp only [hii,false_and,if_false] at hc;exact r5 jj kk c u hjj hc hu
theorem zl6 (hΓ:zbb P Γ) (I:InvH N C h ρ F M g a w) {t:TypeId} {p x:Operand} (ho:o.op = .store t p x) {T:TyD} (hT:tyOf Γ t=some T) (hl:1=T.size) {id2 k:Nat} (hv:Rel h ρ (.buf id2 k) (a.eval x))
 {id n0 i:Nat} (hp:Rel h ρ (.gp id n0 i) (a.eval p)) {tS ty sz n:Nat} {m:Nat→Nat} {e:Nat→Nat→List AV} (hm:M id=some (.grid tS ty sz n m e)) {k2:Nat} {e2:Nat→List AV} (hm2:M id2=some (.buf ty sz k2 e2)) (hne:id≠id2)
 (hn:n0=n∧i<n∧k=k2∧m i<k2):Good P N C h ρ F M g a o w ⟨.any,[id,id2],[(id,.grid tS ty sz n (fun a=>if a=i then k2 else m a) (fun a=>if a=i then e2 else e a)),(id2,.dead)],some (n0=n∧i<n∧k=k2∧m i<k2),none⟩:=by
 obtain ⟨rfl,hin,rfl,hlt⟩:=hn
 obtain ⟨v0,rows,e1,e0,e3,e4,e5,e6⟩:=I.blk id _ hm
 obtain ⟨v2,us,f1,f2,f3,f5,f4⟩:=I.blk id2 _ hm2
 have hx:a.eval x=v2∧(a.eval x).oneCell'=true:=by
  generalize a.eval x=z at hv
  cases hv with
  | buf _ _ _ n2 sz2 v v' hb hle h1 he=>rw [f1] at hb;cases hb;exact ⟨he rfl,h1⟩
 obtain ⟨hx1,hx2⟩:=hx
 rw [hx1] at hx2
 have hcells:v2.cells = #[v2]:=by cases v2 <;> first|rfl|(simp [Value.oneCell'] at hx2)
 generalize hp':a.eval p=pv at hp
 cases hp with
 | gp _ _ _ _ li ad hb hgg=>
  rw [e1] at hb;cases hb
  obtain ⟨b,cap,rfl,rfl⟩:=(hgg _ _ _ rfl).2 e0.symm
  have hil:i<rows.length:=by omega
  obtain ⟨cur,c1,c2,c3⟩:=zdz e3 i [v2] (by simp;omega)
  have hrun:=zeC (w:=w) (hΓ t T hT) (x:=v2) (vs:=[v2]) hcells (by simpa using hl) (by simpa using hx2) (off:=i) c1 c2
  obtain ⟨ρ',hρ'⟩:∃ ρ',upd (upd ρ id (some (.grid (.slice (some ⟨b,0,none⟩) n0 cap) sz (rows.set i (k,v2))))) id2 (some (.sl (k+1) sz (.slice none 0 0)))=ρ':=⟨_,rfl⟩
  have r1:ρ' id=some (.grid (.slice (some ⟨b,0,none⟩) n0 cap) sz (rows.set i (k,v2))):=by rw [← hρ',zae _ _ hne,zah]
  have r2:ρ' id2=some (.sl (k+1) sz (.slice none 0 0)):=by rw [← hρ',zah]
  have r3:∀ j,¬ (j=id∨j=id2)→ρ' j=ρ j:=fun j hj=>by rw [← hρ',zae _ _ (fun e=>hj (.inr e)),zae _ _ (fun e=>hj (.inl e))]
  have hrows:∀ j (y:Nat×Value),(rows.set i (k,v2))[j]? = some y→(j=i∧y=(k,v2))∨(j≠i∧rows[j]? = some y):=by
   intro j y hy
   by_cases hji:j=i
   · subst hji
     rw [List.getElem?_set_self hil] at hy;cases hy
     exact .inl ⟨rfl,rfl⟩
   · rw [List.getElem?_set_ne (Ne.symm hji)] at hy
     exact .inr ⟨hji,hy⟩
  have hown2:∀ bb,v2.ownBlock=some bb→∀ li,ρ id=some li→¬ li.owns bb:=fun bb hbb li hli ho'=>hne (I.inj id id2 li _ bb hli f1 ho' hbb)
  have hblk:∀ bb,v2.ownBlock=some bb→bb≠b:=fun bb hbb ee=>hown2 bb hbb _ e1 (.inl (by simp [Value.ownBlock,ee]))
  refine ⟨undef,w.setRow b (cur.toList.take i++[v2]++cur.toList.drop (i+1)).toArray,h,ρ',.inr ⟨?_,rfl⟩,I.step (S:=fun j=>j=id∨j=id2) (w':=w.setRow b (cur.toList.take i++[v2]++cur.toList.drop (i+1)).toArray) rfl rfl rfl (by simp)
   (fun kk _ hk=>setRow_other w b kk _ (fun ee=>hk id _ (.inl rfl) e1 (.inl (by simp [Value.ownBlock,ee])))) r3 ?_ (fun _ _ h=>h) (fun _ _ h=>.inl h) ?_ ?_ ?_ ?_ ?_,.any _ _⟩
  · unfold execOp
    simp only [List.length_singleton] at hrun
    simp only [ho,Instr.storeAt,hp',hx1,Instr.sureAddr,Sem.run_bind,Sem.run_pure,Result.andThen_ok,hrun]
  · intro j li hj
    by_cases hj1:j=id
    · subst hj1
      rw [e1] at hj;cases hj
      refine ⟨_,r1,.inr (.inr (.inl ⟨_,_,_,_,_,rfl,rfl,by simp,fun _=>rfl,fun ii mm x hh=>?_⟩))⟩
      by_cases hii:ii=i
      · subst hii
        right
        refine ⟨k,v2,List.getElem?_set_self hil,?_⟩
        have:=(e4 ii _ hh).1
        simp only at this
        omega
      · left;rw [List.getElem?_set_ne (Ne.symm hii)];exact hh
    · by_cases hj2:j=id2
      · subst hj2
        rw [f1] at hj;cases hj
        exact ⟨_,r2,.inr (.inl ⟨_,_,_,_,_,rfl,rfl,Nat.lt_succ_self _⟩)⟩
      · exact ⟨li,by rw [r3 j (by simp [hj1,hj2])];exact hj,.inl rfl⟩
  · intro j hj
    simp only [not_or] at hj
    show updL M _ j=M j
    simp only [updL]
    rw [zae _ _ hj.2,zae _ _ hj.1]
  · rintro j (rfl|rfl) hM
    · simp only [updL] at hM;rw [zae _ _ hne,zah] at hM;cases hM
    · simp only [updL] at hM;rw [zah] at hM;cases hM
  · rintro j y (rfl|rfl) hM
    · simp only [updL] at hM;rw [zae _ _ hne,zah] at hM;cases hM
      refine ⟨_,_,r1,by simpa using e0,?_,fun ii y hy=>?_,fun ii ii' y y' bb hy hy' hb1 hb2=>?_,fun ii y bb hy hb1 hb2=>?_⟩
      · have:(rows.set i (k,v2)).map (·.2)=(rows.map (·.2)).take i++[v2]++(rows.map (·.2)).drop (i+1):=by
         apply List.ext_getElem?
         intro q
         have hs:=zeH (rows.map (·.2)) [v2] i (by simp;omega) q
         simp only [List.length_singleton] at hs
         rw [hs,List.getElem?_map]
         by_cases hq:q=i
         · subst hq
           rw [List.getElem?_set_self hil,if_pos (by omega)];simp
         · rw [List.getElem?_set_ne (Ne.symm hq),if_neg (by omega),List.getElem?_map]
        rw [this]
        simpa using c3
      · rcases hrows ii y hy with ⟨rfl,rfl⟩|⟨hii,hy'⟩
        · refine ⟨by simp,hx2,us,?_,fun jj hjj=>?_,f5,fun jj kk c u hjj hc hu=>?_⟩
          · exact zbp f2 (fun bb hbb=>setRow_other w b bb _ (hblk bb hbb))
          · simp only [if_true] at hjj ⊢;exact f3 jj hjj
          · simp only [if_true] at hjj hc;exact f4 jj kk c u hjj hc hu
        · obtain ⟨g0,g1,xs,g2,g3,g4,g5⟩:=e4 ii y hy'
          refine ⟨by simp [hii,g0],g1,xs,zbp g2 (fun bb hbb=>setRow_other w b bb _ (fun ee=>e6 ii y bb hy' hbb (by simp [Value.ownBlock,ee]))),fun jj hjj=>?_,g4,fun jj kk c u hjj hc hu=>?_⟩
          · simp only [hii,if_false] at hjj ⊢;exact g3 jj hjj
          · simp only [hii,if_false] at hjj hc;exact g5 jj kk c u hjj hc hu
      · rcases hrows ii y hy with ⟨rfl,rfl⟩|⟨hii,hy2⟩
        · rcases hrows ii' y' hy' with ⟨rfl,rfl⟩|⟨hii',hy2'⟩
          · rfl
          · exact absurd (.inr ⟨y',List.mem_of_getElem? hy2',hb2⟩) (hown2 bb hb1 _ e1)
        · rcases hrows ii' y' hy' with ⟨rfl,rfl⟩|⟨hii',hy2'⟩
          · exact absurd (.inr ⟨y,List.mem_of_getElem? hy2,hb1⟩) (hown2 bb hb2 _ e1)
          · exact e5 ii ii' y y' bb hy2 hy2' hb1 hb2
      · rcases hrows ii y hy with ⟨rfl,rfl⟩|⟨hii,hy2⟩
        · simp [Value.ownBlock] at hb2
          exact hblk bb hb1 hb2.symm
        · exact e6 ii y bb hy2 hb1 hb2
    · simp only [updL] at hM;rw [zah] at hM;cases hM
      exact ⟨_,_,r2⟩
  · rintro j li bb (rfl|rfl) hr hb1
    · rw [r1] at hr;cases hr
      rcases hb1 with hb1|⟨y,hy,hb1⟩
      · exact .inl ⟨j,_,.inl rfl,e1,.inl hb1⟩
      · obtain ⟨ii,hii⟩:=List.getElem?_of_mem hy
        rcases hrows ii y hii with ⟨rfl,rfl⟩|⟨_,hy2⟩
        · exact .inl ⟨id2,_,.inr rfl,f1,hb1⟩
        · exact .inl ⟨j,_,.inl rfl,e1,.inr ⟨y,List.mem_of_getElem? hy2,hb1⟩⟩
    · rw [r2] at hr;cases hr
      simp [LI.owns,Value.ownBlock] at hb1
  · rintro j j' li li' bb (rfl|rfl) (rfl|rfl) hr hr' hb1 hb2
    · rfl
    · rw [r2] at hr';cases hr';simp [LI.owns,Value.ownBlock] at hb2
    · rw [r2] at hr;cases hr;simp [LI.owns,Value.ownBlock] at hb1
    · rfl
theorem zl9 (hΓ:zbb P Γ) (I:InvH N C h ρ F M g a w) {t:TypeId} {l c:Operand} (ho:o.op = .makeSlice t l c) {T:TyD} (hT:tyOf Γ t=some T) {e:TypeId} (hd:T.d = .slice e)
 {E:TyD} (hE:tyOf Γ e=some E) (hz:E.zero=[.slice none 0 0]) (h1:E.size=1) (ty sz:Nat) {n m:Int} (hl:Rel h ρ (.int .i64 n) (a.eval l)) (hc:Rel h ρ (.int .i64 m) (a.eval c)) {d:Nat} (hdn:M d=none) (hq:0≤n∧n≤m∧room m.toNat E.bytes) (hmax:m.toNat≤maxLen) :
 Good P N C h ρ F M g a o w ⟨.gb d n.toNat,[d],[(d,.grid e ty sz n.toNat (fun _=>0) (fun _ _=>[]))],some (0≤n∧n≤m∧room m.toNat E.bytes),none⟩:=by
 obtain ⟨hq1,hq2,hq3,hq4⟩:=hq
 have hEy:=hΓ e E hE
 obtain ⟨i,i1,i2,i3,i4⟩:=hEy.info
 have hu:=(hΓ t T hT).za4 hd
 generalize hl':a.eval l=lv at hl
 generalize hc':a.eval c=cv at hc
 cases hl;cases hc
 have hrun:=run_make (P:=P) w t e i E.zeroV hu i1 i4 .i64 .i64 n m hq1 hq2 (by
  rw [i3]
  obtain ⟨mm,rfl⟩:=Int.eq_ofNat_of_zero_le (show 0≤m by omega)
  rw [Int.toNat_natCast] at hq3
  rw [← Int.natCast_mul,Nat.mul_comm]
  generalize mm * E.bytes=k at hq3 ⊢
  omega) (by omega)
 rw [zbd hEy,i2,hz,h1,Nat.mul_one] at hrun
 have hle:n.toNat≤m.toNat:=by omega
 have hmade:(madeCells ([Value.slice none 0 0]:List Value).toArray m.toNat).toList.take n.toNat=List.replicate n.toNat (Value.slice none 0 0):=by
  apply List.ext_getElem?
  intro k
  rw [List.getElem?_take,List.getElem?_replicate]
  by_cases hk:k<n.toNat
  · simp [hk,madeCells,show k<m.toNat by omega,Nat.mod_one]
  · simp [hk]
 have hrepl:∀ (ii:Nat) (x:Nat×Value),(List.replicate n.toNat ((0,.slice none 0 0):Nat×Value))[ii]? = some x→x=(0,.slice none 0 0):=fun ii x hx=>by
  rw [List.getElem?_replicate] at hx
  split at hx
  · cases hx;rfl
  · cases hx
 have hrep1:∀ (ii:Nat) (x:Nat×Value),(List.replicate n.toNat ((0,.slice none 0 0):Nat×Value))[ii]? = some x→x.1=0∧x.2.oneCell'=true∧∃ xs:List Value,(w.alloc (.cells (madeCells ([Value.slice none 0 0]:List Value).toArray m.toNat) e)).ownsRow 0 ty sz x.2 x.1 xs∧(∀ j,j<0→([]:List AV).length=sz)∧(∀ y,y∈xs→y.oneCell'=true) ∧
  ∀ (j k:Nat) (c:AV) (y:Value),j<0→([]:List AV)[k]? = some c→xs[j * sz+k]? = some y→Rel h ρ0 c y:=fun ii x hx=>by
  rw [hrepl ii x hx]
  exact ⟨rfl,rfl,[],⟨by simp,.inl ⟨rfl,rfl⟩⟩,fun j hj=>absurd hj (Nat.not_lt_zero _),fun y hy=>(by cases hy),fun j k c y hj=>absurd hj (Nat.not_lt_zero _)⟩
 have hrep2:∀ (i i':Nat) (x x':Nat×Value) (b:Nat),(List.replicate n.toNat ((0,.slice none 0 0):Nat×Value))[i]? = some x→(List.replicate n.toNat ((0,.slice none 0 0):Nat×Value))[i']? = some x'→x.2.ownBlock=some b→x'.2.ownBlock=some b→i=i':=fun ii _ x _ b hx _ hb=>by
  rw [hrepl ii x hx] at hb;simp [Value.ownBlock] at hb
 have hrep3:∀ (i:Nat) (x:Nat×Value) (b:Nat),(List.replicate n.toNat ((0,.slice none 0 0):Nat×Value))[i]? = some x→x.2.ownBlock=some b→(Value.slice (some ⟨w.heap.size,0,none⟩) n.toNat m.toNat).ownBlock≠some b:=fun ii x b hx hb=>by
  rw [hrepl ii x hx] at hb;simp [Value.ownBlock] at hb
 have I':=I.zek hdn (.cells (madeCells ([Value.slice none 0 0]:List Value).toArray m.toNat) e) (.grid (.slice (some ⟨w.heap.size,0,none⟩) n.toNat m.toNat) sz (List.replicate n.toNat (0,.slice none 0 0))) (.grid e ty sz n.toNat (fun _=>0) (fun _ _=>[]))
  (fun b hb=>by
   rcases hb with hb|⟨r,hr,hb⟩
   · exact (Option.some.inj hb).symm
   · rw [List.mem_replicate] at hr;rw [hr.2] at hb;simp [Value.ownBlock] at hb)
  (⟨_,_,zah _ _ _,by simp,⟨by simp,.inr ⟨w.heap.size,m.toNat,_,rfl,Nat.zero_le _,heap_alloc_new w _,hle,hmax,by rw [size_madeCells,Nat.mul_one],by
   simp only [Nat.mul_one]
   rw [hmade]
   simp⟩⟩,hrep1,hrep2,hrep3⟩)
 refine ⟨.slice (some ⟨w.heap.size,0,none⟩) n.toNat m.toNat,_,_,_,.inl ?_,I',.gb _ _ _ _ _ (zah _ _ _) (fun v1 sz1 rows1 ee=>by cases ee;exact ⟨by simp,fun _=>rfl⟩) rfl⟩
 unfold execOp
 simp only [ho,hl',hc',Sem.run_bind,hrun,Result.andThen_ok,Sem.run_pure]
theorem zg8 {ty sz n:Nat} {v:Value} {xs:List Value} (H:w.ownsRow 0 ty sz v n xs):∃ ad cap,v = .slice ad n cap∧n≤cap∧(0<n→∃ g,ad=some ⟨g,0,none⟩):=by
 rcases H.2 with ⟨rfl,rfl⟩|⟨g,cap,cur,rfl,_,_,h,_⟩
 · exact ⟨none,0,rfl,Nat.le_refl _,fun h=>absurd h (Nat.lt_irrefl _)⟩
 · exact ⟨_,cap,rfl,h,fun _=>⟨g,rfl⟩⟩
theorem zos (hΓ:zbb P Γ) (I:InvH N C h ρ F M g a w) {t:TypeId} {x:Operand} {lo hi mx:Option Operand} (ho:o.op = .slice t x lo hi mx) {val:Operand→AV} (hv:∀ y,y∈o.op.operands→Rel h ρ (val y) (a.eval y)) {id n:Nat} (hvx:val x = .buf id n) {r:R}
 (hr:zkr Γ mg t id n (optV val lo) (optV val hi) (optV val mx)=some r) (hm:∀ id,id∈r.rd→M id=mg id) (hc:∀ q,r.cs=some q→q):Good P N C h ρ F M g a o w r:=by
 unfold zkr at hr
 cases hT:tyOf Γ t with
 | none=>simp [hT] at hr
 | some T=>
 simp only [hT] at hr
 cases hd:T.d <;> simp only [hd] at hr <;> (try (cases hr;done))
 rename_i e
 cases hE:tyOf Γ e with
 | none=>simp [hE] at hr
 | some E=>
 simp only [hE] at hr
 have hu:=(hΓ t T hT).za4 hd
 have hEy:=hΓ e E hE
 have hx:Rel h ρ (.buf id n) (a.eval x):=hvx▸hv x (by rw [ho];cases lo <;> cases hi <;> cases mx <;> simp [Op.operands])
 have hlo:∀ y,lo=some y→Rel h ρ (val y) (a.eval y):=fun y hy=>hv y (by rw [ho,hy];cases hi <;> cases mx <;> simp [Op.operands])
 have hhi:∀ y,hi=some y→Rel h ρ (val y) (a.eval y):=fun y hy=>hv y (by rw [ho,hy];cases lo <;> cases mx <;> simp [Op.operands])
 have hmx:∀ y,mx=some y→Rel h ρ (val y) (a.eval y):=fun y hy=>hv y (by rw [ho,hy];cases lo <;> cases hi <;> simp [Op.operands])
 have intv:∀ {lo:Option Operand} {b:Int},(∀ y,lo=some y→Rel h ρ (val y) (a.eval y))→optV val lo=some (.int .i64 b)→lo.map a.eval=some (.int .i64 b):=by
  intro lo b hl ho'
  cases lo with
  | none=>simp [optV] at ho'
  | some y=>
   simp only [optV,Option.some.injEq] at ho'
   have:=hl y rfl
   rw [ho'] at this
   generalize hz:a.eval y=z at this
   cases this
   simp [hz]
 have nonev:∀ {lo:Option Operand},optV val lo=none→lo.map a.eval=none:=by
  intro lo ho'
  cases lo with
  | none=>rfl
  | some y=>simp [optV] at ho'
 -- a part,once the bounds are known
 have fin:∀ (ad:Option Addr) (n' cap l hh mm:Nat) (q:Option Prop) (rd:List Nat) (v:AV),a.eval x = .slice ad n' cap→(Instr.sliceBounds true n' cap (lo.map a.eval) (hi.map a.eval) (mx.map a.eval)).run P w = .ok (l,hh,mm) w →
  Rel h ρ v (.slice (if mm=l then ad else ad.map (·.add (l * E.size))) (hh - l) (mm - l))→Good P N C h ρ F M g a o w ⟨v,rd,[],q,none⟩:=by
  intro ad n' cap l hh mm q rd v hax hrun hrel
  refine Good.same I (.inl ?_) rfl hrel
  unfold execOp
  simp only [ho,hax,Instr.sliceAt,Instr.slice,Sem.run_bind,run_underlying hu,Result.andThen_ok,hrun,hEy.zcP w,Sem.run_pure]
 have part:∀ (gg n' cap l hh:Nat) (sz:Nat) (v0:Value),sz=E.size→ρ id=some (.sl n' sz v0)→v0 = .slice (some ⟨gg,0,none⟩) n' cap→Rel h ρ (.sb id n' l hh) (.slice (if cap=l then some ⟨gg,0,none⟩ else (some (⟨gg,0,none⟩:Addr)).map (·.add (l * E.size))) (hh - l) (cap - l)):=by
  intro gg n' cap l hh sz v0 hsz e1 hv0
  refine .sb _ _ _ _ _ _ _ _ _ e1 (Nat.le_refl _) (by split <;> rfl) (fun _=>⟨gg,cap,hv0,?_⟩)
  subst hsz
  split
  · rfl
  · simp [Addr.add_lit]
 cases hg:mg id with
 | none=>simp [hg] at hr
 | some bl=>
 cases bl <;> simp only [hg] at hr <;> (try (cases hr;done))
 case buf ty sz n' el=>
  cases hb:Nat.beq sz E.size with
  | false=>simp [hb] at hr
  | true=>
  simp only [hb] at hr
  have hsz:=Nat.eq_of_beq_eq_true hb
  have key:M id=some (.buf ty sz n' el)→n=n'→∃ ad cap,a.eval x = .slice ad n' cap∧n'≤cap∧ρ id=some (.sl n' sz (.slice ad n' cap))∧(0<n'→∃ gg,ad=some ⟨gg,0,none⟩):=by
   rintro hM rfl
   obtain ⟨v0,us,e1,e2,_⟩:=I.blk id _ hM
   obtain ⟨ad,cap,rfl,h2,h3⟩:=zg8 e2
   refine ⟨ad,cap,?_,h2,e1,h3⟩
   generalize a.eval x=z at hx
   cases hx with
   | buf _ _ _ _ _ _ _ hb' hle k1 he=>rw [e1] at hb';cases hb';exact he rfl
  split at hr
  · rename_i la lb lc h1 h2 h3
    cases hr
    obtain ⟨q0,q1,q2,q3,q4⟩:=hc _ rfl
    obtain ⟨ad,cap,k1,k2,k3,k4⟩:=key ((hm id (by simp)).trans hg) q0
    refine fin ad n' cap la.toNat lb.toNat lc.toNat _ _ _ k1 ?_ (.any _ _)
    rw [intv hlo h1,intv hhi h2,intv hmx h3]
    simp only [Instr.sliceBounds,Sem.run_bind,Sem.run_pure,Result.andThen_ok,run_sliceBound (P:=P) (i:=lc) (y:=cap) ⟨by omega,by omega⟩,run_sliceBound (P:=P) (i:=lb) (y:=lc.toNat) ⟨by omega,by omega⟩,run_sliceBound (P:=P) (i:=la) (y:=lb.toNat) ⟨q1,by omega⟩]
  · rename_i la lb h1 h2 h3
    cases hr
    obtain ⟨q0,q00,q1,q2,q3⟩:=hc _ rfl
    obtain ⟨ad,cap,k1,k2,k3,k4⟩:=key ((hm id (by simp)).trans hg) q0
    obtain ⟨gg,rfl⟩:=k4 q00
    refine fin _ n' cap la.toNat lb.toNat cap _ _ _ k1 ?_ (part gg n' cap _ _ sz _ hsz k3 rfl)
    rw [intv hlo h1,intv hhi h2,nonev h3]
    simp only [Instr.sliceBounds,Sem.run_bind,Sem.run_pure,Result.andThen_ok,run_sliceBound (P:=P) (i:=lb) (y:=cap) ⟨by omega,by omega⟩,run_sliceBound (P:=P) (i:=la) (y:=lb.toNat) ⟨q1,by omega⟩]
  · rename_i lb h1 h2 h3
    cases hr
    obtain ⟨q0,q00,q1,q2⟩:=hc _ rfl
    obtain ⟨ad,cap,k1,k2,k3,k4⟩:=key ((hm id (by simp)).trans hg) q0
    obtain ⟨gg,rfl⟩:=k4 q00
    refine fin _ n' cap 0 lb.toNat cap _ _ _ k1 ?_ (part gg n' cap _ _ sz _ hsz k3 rfl)
    rw [nonev h1,intv hhi h2,nonev h3]
    simp only [Instr.sliceBounds,Sem.run_bind,Sem.run_pure,Result.andThen_ok,run_sliceBound (P:=P) (i:=lb) (y:=cap) ⟨by omega,by omega⟩]
  · rename_i la h1 h2 h3
    cases hr
    obtain ⟨q0,q00,q1,q2⟩:=hc _ rfl
    obtain ⟨ad,cap,k1,k2,k3,k4⟩:=key ((hm id (by simp)).trans hg) q0
    obtain ⟨gg,rfl⟩:=k4 q00
    refine fin _ n' cap la.toNat n' cap _ _ _ k1 ?_ (part gg n' cap _ _ sz _ hsz k3 rfl)
    rw [intv hlo h1,nonev h2,nonev h3]
    simp only [Instr.sliceBounds,Sem.run_bind,Sem.run_pure,Result.andThen_ok,run_sliceBound (P:=P) (i:=la) (y:=n') ⟨by omega,by omega⟩]
  · cases hr
 case bufk ty sz n' c el=>
  cases hb:Nat.beq sz E.size with
  | false=>simp [hb] at hr
  | true=>
  simp only [hb] at hr
  have hsz:=Nat.eq_of_beq_eq_true hb
  split at hr
  · rename_i la lb h1 h2 h3
    cases hr
    obtain ⟨rfl,q1,q2,q3⟩:=hc _ rfl
    obtain ⟨v0,us,e1,e2,⟨gg,cap,rfl,hcap⟩,_⟩:=I.blk id _ ((hm id (by simp)).trans hg)
    have hax:a.eval x = .slice (some ⟨gg,0,none⟩) n cap:=by
     generalize a.eval x=z at hx
     cases hx with
     | buf _ _ _ _ _ _ _ hb' hle k1 he=>rw [e1] at hb';cases hb';exact he rfl
    refine fin _ n cap la.toNat lb.toNat cap _ _ _ hax ?_ (part gg n cap _ _ sz _ hsz e1 rfl)
    rw [intv hlo h1,intv hhi h2,nonev h3]
    simp only [Instr.sliceBounds,Sem.run_bind,Sem.run_pure,Result.andThen_ok,run_sliceBound (P:=P) (i:=lb) (y:=cap) ⟨by omega,by omega⟩,run_sliceBound (P:=P) (i:=la) (y:=lb.toNat) ⟨q1,by omega⟩]
  · cases hr
theorem zgJ (w:World) (t tx ty e:TypeId) (i:TypeInfo) (ht:P.underlying t=some (.slice e)) (hi:P.info? e=some i) (b off sLen sCap:Nat) (x:Value) (n:Nat) (news:List Value) (hs:Src P i.size tx x n news w)
 (hroom:sLen+n≤sCap) {cur:Array Value} {tyr:TypeId} (hg:w.heap[b]? = some (.cells cur tyr (0,0))) (hfit:off+sLen * i.size+news.length≤cur.size) :
 (Builtin.append_ #[t,tx] ty #[.slice (some ⟨b,off,none⟩) sLen sCap,x]).run P w = .ok (.slice (some ⟨b,off,none⟩) (sLen+n) sCap) (w.setRow b (cur.toList.take (off+sLen * i.size)++news++cur.toList.drop (off+sLen * i.size+news.length)).toArray):=by
 have hst:=run_storeCells_at P b (off+sLen * i.size) tyr news 0 cur w hg (by simpa using hfit) hs.one
 simp only [Nat.add_zero] at hst
 rcases hs.kind with ⟨e',hk⟩|hk <;> simp [Builtin.append_,run_underlying ht,run_underlying hk,sizeOf,typeInfo,hi,hs.len,hroom,hs.cells,Addr.add_lit,hst]
theorem zjm {ty sz n m g cap:Nat} {zs:List Value} (H:w.ownsRow 0 ty sz (.slice (some ⟨g,0,none⟩) n cap) n zs) (hm:m≤n):w.ownsRow 0 ty sz (.slice (some ⟨g,0,none⟩) m cap) m (zs.take (m * sz)):=by
 obtain ⟨q1,q2⟩:=H
 have hle:m * sz≤n * sz:=Nat.mul_le_mul_right _ hm
 rcases q2 with ⟨q2,_⟩|⟨g',cap',cur,q2,q0,q3,q4,q5,q6,q7⟩
 · cases q2
 cases q2
 refine ⟨by rw [List.length_take,q1];omega,.inr ⟨g,cap,cur,rfl,q0,q3,by omega,q5,q6,?_⟩⟩
 rw [← q7,List.take_take]
 congr 1
 omega
theorem zns (hΓ:zbb P Γ) (I:InvH N C h ρ F M g a w) {t:TypeId} {x y:Operand} (ho:o.op = .call { callee:=.builtin .append,args:=#[x,y],argTypes:=#[t,t] }) {id n b id2 n2 j k:Nat} (hx:Rel h ρ (.sb id n 0 b) (a.eval x)) (hy:Rel h ρ (.sb id2 n2 j k) (a.eval y)) {r:R}
 (hr:zjd Γ mg o t id n b id2 n2 j k=some r) (hm:∀ id,id∈r.rd→M id=mg id) (hc:∀ q,r.cs=some q→q):Good P N C h ρ F M g a o w r:=by
 unfold zjd at hr
 cases hT:tyOf Γ t with
 | none=>simp [hT] at hr
 | some T=>
 simp only [hT] at hr
 cases hd:T.d <;> simp only [hd] at hr <;> (try (cases hr;done))
 rename_i e
 cases hE:tyOf Γ e with
 | none=>simp [hE] at hr
 | some E=>
 simp only [hE] at hr
 have hu:=(hΓ t T hT).za4 hd
 have hEy:=hΓ e E hE
 cases hg:mg id with
 | none=>simp [hg] at hr
 | some bl=>
 cases bl <;> simp only [hg] at hr <;> (try (cases hr;done))
 rename_i ty sz n' e1
 split at hr
 rotate_left
 · cases hr
 rename_i hbb
 simp only [Bool.and_eq_true] at hbb
 obtain ⟨⟨hb1,hb2⟩,hb3⟩:=hbb
 have hty:=Nat.eq_of_beq_eq_true hb1
 have hsz:=Nat.eq_of_beq_eq_true hb2
 have hid:=Nat.eq_of_beq_eq_true hb3
 subst hty;subst hid
 cases hf:fresh mg o with
 | none=>simp [hf] at hr
 | some d=>
 simp only [hf] at hr
 cases hr
 obtain ⟨rfl,hn2,hbj,hjk,hkn⟩:=hc _ rfl
 subst n2
 obtain ⟨hdst,hmd⟩:=zcp hf
 have hMid:M id=some (.buf ty sz n e1):=(hm id (by simp)).trans hg
 have hMd:M d=none:=(hm d (by simp)).trans hmd
 have hdid:d≠id:=by rintro rfl;rw [hMd] at hMid;cases hMid
 obtain ⟨v0,us,k1,k2,k3,k5,k4⟩:=I.blk id _ hMid
 obtain ⟨i,i1,i2,i3,i4⟩:=hEy.info
 generalize hxe:a.eval x=xv at hx
 generalize hye:a.eval y=yv at hy
 cases hx with
 | sb _ _ _ _ _ n1 sz1 xv v1 hb hle h1 he=>
 rw [k1] at hb;cases hb
 obtain ⟨gg,cap,rfl,rfl⟩:=he rfl
 cases hy with
 | sb _ _ _ _ _ n1 sz1 yv v1 hb' hle' h1' he'=>
 rw [k1] at hb';cases hb'
 obtain ⟨gg',cap',q1,rfl⟩:=he' rfl
 cases q1
 have hsl:us.length=n * sz:=k2.1
 have hcapn:n≤cap:=by
  rcases k2.2 with ⟨q,_⟩|⟨_,_,_,q,_,_,q4,_⟩
  · cases q
  · cases q;exact q4
 have mulle:∀ p q:Nat,p≤q→p * sz≤q * sz:=fun p q h=>Nat.mul_le_mul_right _ h
 obtain ⟨news,hnews⟩:∃ news,(us.drop (j * sz)).take ((k - j) * sz)=news:=⟨_,rfl⟩
 have hnl:news.length=(k - j) * sz:=by
  rw [← hnews,List.length_take,List.length_drop,hsl]
  have:=mulle k n hkn
  have h2:(k - j) * sz+j * sz=k * sz:=by rw [← Nat.add_mul];congr 1;omega
  omega
 have hnget:∀ q,q<(k - j) * sz→news[q]? = us[j * sz+q]? := fun q hq=>by
  rw [← hnews,List.getElem?_take,if_pos hq,List.getElem?_drop]
 have hone:∀ u∈news,u.oneCell'=true:=fun u hu=>k5 u (by rw [← hnews] at hu;exact List.mem_of_mem_drop (List.mem_of_mem_take hu))
 have hfit:b * sz+news.length≤n * sz:=by
  rw [hnl,← Nat.add_mul];exact mulle _ _ (by omega)
 obtain ⟨cur,c1,c2,c3⟩:=zdz k2 (b * sz) news hfit
 have hisz:i.size=sz:=by rw [i2,hsz]
 have hsrc:Src P i.size t (.slice (some (if cap=j then ⟨gg,0,none⟩ else ⟨gg,j * sz,none⟩)) (k - j) (cap - j)) (k - j) news w:=by
  refine Src.ofSlice w hu _ _ _ _ (by rw [hisz];exact hnl) (fun q u hq=>?_) hone
  have hql:q<(k - j) * sz:=by rw [← hnl];exact (List.getElem?_eq_some_iff.1 hq).1
  have hne:cap≠j:=by
   rintro rfl
   have:k - cap=0:=by omega
   rw [this] at hql;simp at hql
  rw [if_neg hne,Addr.add_lit]
  have h3:j * sz+q<n * sz:=by
   have:=mulle k n hkn
   have h2:(k - j) * sz+j * sz=k * sz:=by rw [← Nat.add_mul];congr 1;omega
   omega
  rw [hnget q hql] at hq
  have:=k2.cells (g:=gg) rfl (j * sz+q) u hq
  rw [Addr.add_lit] at this
  simpa using this
 have hrun:=zgJ (P:=P) w t t o.type ty i hu i1 gg 0 b cap _ (k - j) news hsrc (by omega) c1 (by rw [hisz,Nat.zero_add];exact c2)
 rw [hisz,Nat.zero_add] at hrun
 obtain ⟨W',hW'⟩:∃ W',w.setRow gg (cur.toList.take (b * sz)++news++cur.toList.drop (b * sz+news.length)).toArray=W':=⟨_,rfl⟩
 rw [hW'] at hrun c3
 have hoth:∀ kk,kk≠gg→W'.heap[kk]? = w.heap[kk]? := fun kk hk=>by rw [← hW'];exact setRow_other w gg kk _ hk
 obtain ⟨ρ',hρ'⟩:∃ ρ',upd (upd ρ d (some (.sl (b+(k - j)) sz (.slice (some ⟨gg,0,none⟩) (b+(k - j)) cap)))) id (some (.sl (n+1) sz (.slice none 0 0)))=ρ':=⟨_,rfl⟩
 have r1:ρ' d=some (.sl (b+(k - j)) sz (.slice (some ⟨gg,0,none⟩) (b+(k - j)) cap)):=by rw [← hρ',zae _ _ hdid,zah]
 have r2:ρ' id=some (.sl (n+1) sz (.slice none 0 0)):=by rw [← hρ',zah]
 have r3:∀ q,¬ (q=d∨q=id)→ρ' q=ρ q:=fun q hq=>by rw [← hρ',zae _ _ (fun e=>hq (.inr e)),zae _ _ (fun e=>hq (.inl e))]
 have hρd:=I.dom d hMd
 have hpre:=zjm c3 (m:=b+(k - j)) (by omega)
 have hzs:∀ q,q<(b+(k - j)) * sz→((us.take (b * sz)++news++us.drop (b * sz+news.length)).take ((b+(k - j)) * sz))[q]? = if q<b * sz then us[q]? else us[j * sz+(q - b * sz)]? := by
  intro q hq
  rw [List.getElem?_take,if_pos hq,zeH _ _ _ (by rw [hsl];exact hfit)]
  have hq2:(b+(k - j)) * sz=b * sz+(k - j) * sz:=Nat.add_mul _ _ _
  by_cases hqb:q<b * sz
  · rw [if_neg (by omega),if_pos hqb]
  · rw [if_pos (by rw [hnl];omega),if_neg hqb,hnget _ (by omega)]
 refine ⟨.slice (some ⟨gg,0,none⟩) (b+(k - j)) cap,W',h,ρ',.inl ?_,I.step (S:=fun q=>q=d∨q=id) (w':=W') ?_ ?_ ?_ ?_ (fun kk _ hk=>hoth kk (fun ee=>hk id _ (.inr rfl) k1 (by rw [ee];rfl))) r3 ?_ (fun _ _ h=>h) (fun _ _ h=>.inl h) ?_ ?_ ?_ ?_ ?_,.buf _ _ _ _ _ _ _ r1 (Nat.le_refl _) rfl (fun _=>rfl)⟩
 · refine zei ho ?_
   have e0:(if cap=0 then (⟨gg,0,none⟩:Addr) else ⟨gg,0 * sz,none⟩)=⟨gg,0,none⟩:=by split <;> simp
   rw [hxe,hye,e0]
   simpa using hrun
 · rw [← hW'];rfl
 · rw [← hW'];rfl
 · rw [← hW'];rfl
 · rw [← hW'];simp
 · intro q li hq
   by_cases hq1:q=d
   · subst hq1;rw [hρd] at hq;cases hq
   · by_cases hq2:q=id
     · subst hq2
       rw [k1] at hq;cases hq
       exact ⟨_,r2,.inr (.inl ⟨_,_,_,_,_,rfl,rfl,Nat.lt_succ_self _⟩)⟩
     · exact ⟨li,by rw [r3 q (by simp [hq1,hq2])];exact hq,.inl rfl⟩
 · intro q hq
   simp only [not_or] at hq
   show updL M _ q=M q
   simp only [updL]
   rw [zae _ _ hq.2,zae _ _ hq.1]
 · rintro q (rfl|rfl) hM
   · simp only [updL] at hM;rw [zae _ _ hdid,zah] at hM;cases hM
   · simp only [updL] at hM;rw [zah] at hM;cases hM
 · rintro q z (rfl|rfl) hM
   · simp only [updL] at hM;rw [zae _ _ hdid,zah] at hM;cases hM
     refine ⟨_,_,r1,hpre,⟨gg,cap,rfl,hcapn⟩,fun ii hii=>?_,fun u hu=>?_,fun ii jj c u hii hcc hu=>?_⟩
     · show (if ii<b then e1 ii else e1 (j+(ii - b))).length=sz
       split
       · exact k3 ii (by omega)
       · exact k3 _ (by omega)
     · obtain ⟨q,hq,rfl⟩:=List.getElem_of_mem hu
       have hq0:q<(b+(k - j)) * sz:=by simp at hq;omega
       have:=hzs q hq0
       rw [List.getElem?_eq_getElem hq] at this
       split at this
       · exact k5 _ (List.mem_of_getElem? this.symm)
       · exact k5 _ (List.mem_of_getElem? this.symm)
     · replace hcc:(if ii<b then e1 ii else e1 (j+(ii - b)))[jj]? = some c:=hcc
       have hjj:jj<sz:=by
        have h0:=(List.getElem?_eq_some_iff.1 hcc).1
        split at h0
        · rw [k3 ii (by omega)] at h0;exact h0
        · rw [k3 _ (by omega)] at h0;exact h0
       have hlt:ii * sz+jj<(b+(k - j)) * sz:=by
        calc ii * sz+jj<ii * sz+sz:=by omega
         _=(ii+1) * sz:=by rw [Nat.add_mul,Nat.one_mul]
         _≤_:=mulle _ _ hii
       rw [hzs _ hlt] at hu
       by_cases hib:ii<b
       · rw [if_pos hib] at hcc
         have:ii * sz+jj<b * sz:=by
          calc ii * sz+jj<ii * sz+sz:=by omega
           _=(ii+1) * sz:=by rw [Nat.add_mul,Nat.one_mul]
           _≤_:=mulle _ _ hib
         rw [if_pos this] at hu
         exact k4 ii jj c u (by omega) hcc hu
       · rw [if_neg hib] at hcc
         have hbi:b * sz≤ii * sz:=mulle _ _ (by omega)
         rw [if_neg (by omega)] at hu
         have hidx:j * sz+(ii * sz+jj - b * sz)=(j+(ii - b)) * sz+jj:=by
          have h2:(ii - b) * sz+b * sz=ii * sz:=by rw [← Nat.add_mul];congr 1;omega
          rw [Nat.add_mul];omega
         rw [hidx] at hu
         exact k4 _ jj c u (by omega) hcc hu
   · simp only [updL] at hM;rw [zah] at hM;cases hM
     exact ⟨_,_,r2⟩
 · rintro q li bb (rfl|rfl) hq hbb
   · rw [r1] at hq;cases hq
     exact .inl ⟨id,_,.inr rfl,k1,hbb⟩
   · rw [r2] at hq;cases hq
     simp [LI.owns,Value.ownBlock] at hbb
 · rintro q q' li li' bb (rfl|rfl) (rfl|rfl) hq hq' hb1' hb2'
   · rfl
   · rw [r2] at hq';cases hq';simp [LI.owns,Value.ownBlock] at hb2'
   · rw [r2] at hq;cases hq;simp [LI.owns,Value.ownBlock] at hb1'
   · rfl
theorem zpy (hΓ:zbb P Γ) (I:InvH N C h ρ F M g a w) {t:TypeId} {ts:List TypeId} {args:Array Operand} {tsa:Array TypeId} {y:Operand} (ho:o.op = .call { callee:=.builtin .clear,args:=args,argTypes:=tsa }) (hts:tsa.toList=t::ts) (hargs:args.toList=[y]) {x:AV} (hx:Rel h ρ x (a.eval y)) {r:R}
 (hr:zmf Γ mg t x=some r) (hm:∀ id,id∈r.rd→M id=mg id) (hc:∀ q,r.cs=some q→q):Good P N C h ρ F M g a o w r:=by
 have ha:args.map a.eval = #[a.eval y]:=by
  apply Array.ext';simp [hargs]
 have ht0:tsa[0]? = some t:=by rw [← Array.getElem?_toList,hts];rfl
 unfold zmf at hr
 cases hT:tyOf Γ t with
 | none=>simp [hT] at hr
 | some T=>
 simp only [hT] at hr
 cases hd:T.d <;> simp only [hd] at hr <;> (try (cases hr;done))
 rename_i e
 cases hE:tyOf Γ e with
 | none=>simp [hE] at hr
 | some E=>
 simp only [hE] at hr
 have hu:=(hΓ t T hT).za4 hd
 have hEy:=hΓ e E hE
 cases x <;> simp only [] at hr <;> (try (cases hr;done))
 rename_i id n lo hh
 cases hg:mg id with
 | none=>simp [hg] at hr
 | some bl=>
 cases bl <;> simp only [hg] at hr <;> (try (cases hr;done))
 case bufk ty sz n' c e1=>
  split at hr
  rotate_left
  · cases hr
  rename_i hbb
  simp only [Bool.and_eq_true] at hbb
  obtain ⟨hb1,hb2⟩:=hbb
  have hty:=Nat.eq_of_beq_eq_true hb1
  have hsz:=Nat.eq_of_beq_eq_true hb2
  subst hty
  cases hr
  obtain ⟨rfl,rfl,hhc⟩:=hc _ rfl
  have hMid:M id=some (.bufk ty sz lo c e1):=(hm id (by simp)).trans hg
  obtain ⟨v0,us,k1,k2,⟨gg,cap,rfl,hcap⟩,k3,k5,k4⟩:=I.blk id _ hMid
  generalize hye:a.eval y=yv at hx
  cases hx with
  | sb _ _ _ _ _ n1 sz1 yv v1 hb hle h1 he=>
  rw [k1] at hb;cases hb
  obtain ⟨gg',cap',q1,rfl⟩:=he rfl
  cases q1
  rcases k2.2 with ⟨q,_⟩|⟨g1,cap1,cur,q,q0,q3,q4,q5,q6,q7⟩
  · cases q
  cases q
  by_cases hz:hh - lo=0
  · -- nothing to clear
    refine ⟨.tuple #[],w,h,ρ,.inl (execOp_builtin ho ?_),?_,.any _ _⟩
    · simp only [builtin,ha,hye,hz,Builtin.clear_,Sem.run_bind,Sem.run_pure,Result.andThen_ok,ht0]
      simp [run_underlying hu,go_sem]
    · have:updL M [(id,.bufk ty sz lo c e1)]=M:=by
       funext q
       simp only [updL]
       by_cases hq:q=id
       · subst hq;rw [zah];exact hMid.symm
       · rw [zae _ _ hq]
      show InvH N C h ρ F (updL M [(id,.bufk ty sz lo c e1)]) g a w
      rw [this];exact I
  · have hne:cap≠lo:=by omega
    obtain ⟨zs,hzs⟩:∃ zs,(Builtin.zeroCells E.zeroV.cells (hh - lo)).toList=zs:=⟨_,rfl⟩
    have hzl:zs.length=(hh - lo) * sz:=by
     rw [← hzs,zbd hEy]
     simp [Builtin.zeroCells,hEy.len,hsz]
    have hz1:∀ v∈zs,v.oneCell'=true:=by
     intro v hv
     rw [← hzs,zbd hEy] at hv
     simp only [Builtin.zeroCells,Array.toList_flatten,Array.toList_replicate,Array.toList_map] at hv
     simp at hv
     obtain ⟨q,hq1,hq2⟩:=hv
     have hpos:0<E.zero.length:=by
      rcases Nat.eq_zero_or_pos E.zero.length with h0|h0
      · rw [h0] at hq1;simp at hq1
      · exact h0
     have hlt:=Nat.mod_lt q hpos
     rw [List.getElem?_eq_getElem hlt] at hq2
     simp at hq2
     subst hq2
     exact (zc1 (Rel.zeL (fun _=>none) ρ0 _) (hEy.one _ (List.getElem_mem hlt))).1
    have hfit:lo * sz+zs.length≤cur.size:=by
     rw [hzl,q6]
     have:lo * sz+(hh - lo) * sz=hh * sz:=by rw [← Nat.add_mul];congr 1;omega
     rw [this];exact Nat.mul_le_mul_right _ (by omega)
    have hst:=run_storeCells_at P gg (lo * sz) ty zs 0 cur w q3 (by simpa using hfit) hz1
    simp only [Nat.add_zero] at hst
    refine ⟨.tuple #[],w.setRow gg (cur.toList.take (lo * sz)++zs++cur.toList.drop (lo * sz+zs.length)).toArray,h,ρ,.inl (execOp_builtin ho ?_),I.zg2 k1 _ rfl rfl rfl (by simp) (fun kk hk=>setRow_other w gg kk _ (fun ee=>hk (by rw [ee];rfl))) ?_,.any _ _⟩
    · obtain ⟨m,hm'⟩:∃ m,hh - lo=m+1:=⟨hh - lo - 1,by omega⟩
      rw [hm'] at hzs
      simp only [builtin,ha,hye,if_neg hne,hm',Builtin.clear_,Sem.run_bind,Sem.run_pure,Result.andThen_ok,ht0]
      simp [run_underlying hu,hEy.zeK w,go_sem]
      change (((Sem.run P (storeCells ⟨gg,lo * sz,none⟩ (Builtin.zeroCells E.zeroV.cells (m+1)).toList) w).andThen fun a w'=>Result.ok (Value.tuple #[]) w').andThen fun a w'=>Result.ok (Next.value a) w')=_
      rw [hzs,hst]
      simp
    · refine ⟨_,us,k1,⟨k2.1,.inr ⟨gg,cap,_,rfl,q0,setRow_heap w gg _ _ ty _ q3,q4,q5,?_,?_⟩⟩,⟨gg,cap,rfl,hcap⟩,k3,k5,k4⟩
      · have:=ziE cur.toList zs (lo * sz) (by simpa using hfit)
        simp only [List.size_toArray]
        rw [this];simpa using q6
      · rw [← q7]
        apply List.ext_getElem?
        intro q
        simp only [List.getElem?_take,List.toList_toArray]
        by_cases hq:q<lo * sz
        · rw [if_pos hq,if_pos hq,zeH _ _ _ (by simpa using hfit),if_neg (by omega)]
        · rw [if_neg hq,if_neg hq]
 case buf ty sz n' e1=>
  split at hr
  rotate_left
  · cases hr
  rename_i hbb
  simp only [Bool.and_eq_true] at hbb
  obtain ⟨hb1,hb2⟩:=hbb
  have hty:=Nat.eq_of_beq_eq_true hb1
  have hsz:=Nat.eq_of_beq_eq_true hb2
  subst hty
  cases hr
  obtain ⟨rfl,hlh,hhn⟩:=hc _ rfl
  have hMid:M id=some (.buf ty sz n e1):=(hm id (by simp)).trans hg
  obtain ⟨v0,us,k1,k2,k3,k5,k4⟩:=I.blk id _ hMid
  generalize hye:a.eval y=yv at hx
  cases hx with
  | sb _ _ _ _ _ n1 sz1 yv v1 hb hle h1 he=>
  rw [k1] at hb;cases hb
  obtain ⟨gg,cap,rfl,rfl⟩:=he rfl
  by_cases hz:hh - lo=0
  · refine ⟨.tuple #[],w,h,ρ,.inl (execOp_builtin ho ?_),?_,.any _ _⟩
    · simp only [builtin,ha,hye,hz,Builtin.clear_,Sem.run_bind,Sem.run_pure,Result.andThen_ok,ht0]
      simp [run_underlying hu,go_sem]
    · have e0:(fun q=>if lo≤q∧q<hh then zeros E.zero else e1 q)=e1:=by funext q;rw [if_neg (by omega)]
      have:updL M [(id,.buf ty sz n (fun q=>if lo≤q∧q<hh then zeros E.zero else e1 q))]=M:=by
       rw [e0]
       funext q
       simp only [updL]
       by_cases hq:q=id
       · subst hq;rw [zah];exact hMid.symm
       · rw [zae _ _ hq]
      show InvH N C h ρ F (updL M [(id,.buf ty sz n (fun q=>if lo≤q∧q<hh then zeros E.zero else e1 q))]) g a w
      rw [this];exact I
  · rcases k2.2 with ⟨q,_⟩|⟨g1,cap1,cur,q,q0,q3,q4,q5,q6,q7⟩
    · cases q
    cases q
    have hne:cap≠lo:=by omega
    obtain ⟨zs,hzs⟩:∃ zs,(Builtin.zeroCells E.zeroV.cells (hh - lo)).toList=zs:=⟨_,rfl⟩
    have hzl:zs.length=(hh - lo) * sz:=by
     rw [← hzs,zbd hEy]
     simp [Builtin.zeroCells,hEy.len,hsz]
    have hzm:zs=(madeCells E.zero.toArray ((hh - lo) * E.size)).toList:=by
     rw [← hzs,zbd hEy]
     simp [Builtin.zeroCells,madeCells,hEy.len]
    have hz1:∀ v∈zs,v.oneCell'=true:=by
     intro x hx
     rw [hzm] at hx
     simp only [Array.mem_toList_iff,madeCells,Array.mem_map,Array.mem_range] at hx
     obtain ⟨k,hk,rfl⟩:=hx
     have hpos:0<E.size:=by
      rcases Nat.eq_zero_or_pos E.size with h0|h0
      · rw [h0] at hk;simp at hk
      · exact h0
     have hlt:k % E.zero.length<E.zero.length:=by rw [hEy.len];exact Nat.mod_lt _ hpos
     have:E.zero.toArray[k % E.zero.toArray.size]! = E.zero[k % E.zero.length]:=by simp [hlt]
     rw [this]
     exact (zc1 (Rel.zeL (fun _=>none) ρ0 _) (hEy.one _ (List.getElem_mem hlt))).1
    have hsum:lo * sz+(hh - lo) * sz=hh * sz:=by rw [← Nat.add_mul];congr 1;omega
    have hfitn:lo * sz+zs.length≤n * sz:=by rw [hzl,hsum];exact Nat.mul_le_mul_right _ hhn
    have hfit:lo * sz+zs.length≤cur.size:=by
     refine Nat.le_trans hfitn ?_
     rw [q6];exact Nat.mul_le_mul_right _ (by omega)
    have hst:=run_storeCells_at P gg (lo * sz) ty zs 0 cur w q3 (by simpa using hfit) hz1
    simp only [Nat.add_zero] at hst
    obtain ⟨cur2,c1,c2,c3⟩:=zdz k2 (lo * sz) zs hfitn
    rw [q3] at c1;cases c1
    have husl:us.length=n * sz:=k2.1
    refine ⟨.tuple #[],w.setRow gg (cur.toList.take (lo * sz)++zs++cur.toList.drop (lo * sz+zs.length)).toArray,h,ρ,.inl (execOp_builtin ho ?_),I.zg2 k1 _ rfl rfl rfl (by simp) (fun kk hk=>setRow_other w gg kk _ (fun ee=>hk (by rw [ee];rfl))) ?_,.any _ _⟩
    · obtain ⟨m,hm'⟩:∃ m,hh - lo=m+1:=⟨hh - lo - 1,by omega⟩
      rw [hm'] at hzs
      simp only [builtin,ha,hye,if_neg hne,hm',Builtin.clear_,Sem.run_bind,Sem.run_pure,Result.andThen_ok,ht0]
      simp [run_underlying hu,hEy.zeK w,go_sem]
      change (((Sem.run P (storeCells ⟨gg,lo * sz,none⟩ (Builtin.zeroCells E.zeroV.cells (m+1)).toList) w).andThen fun a w'=>Result.ok (Value.tuple #[]) w').andThen fun a w'=>Result.ok (Next.value a) w')=_
      rw [hzs,hst]
      simp
    · refine ⟨_,_,k1,c3,fun i hi=>?_,fun u hu=>?_,fun i j c x hi hj hx=>?_⟩
      · dsimp only
        split
        · rw [zbu,hEy.len,hsz]
        · exact k3 i hi
      · rw [List.mem_append,List.mem_append] at hu
        rcases hu with (hu|hu)|hu
        · exact k5 u (List.mem_of_mem_take hu)
        · exact hz1 u hu
        · exact k5 u (List.mem_of_mem_drop hu)
      · rw [zeH _ _ _ (by rw [husl];exact hfitn)] at hx
        dsimp only at hj
        by_cases hin:lo≤i∧i<hh
        · rw [if_pos hin] at hj
          have hj':j<sz:=by rw [hsz,← hEy.len,← zbu];exact (List.getElem?_eq_some_iff.1 hj).1
          have ei:i * sz=lo * sz+(i - lo) * sz:=by rw [← Nat.add_mul];congr 1;omega
          have hlt2:(i - lo) * sz+j<(hh - lo) * sz:=by
           have h4:(i - lo) * sz+sz≤(hh - lo) * sz:=by
            have:(i - lo) * sz+sz=(i - lo+1) * sz:=by rw [Nat.add_mul,Nat.one_mul]
            rw [this];exact Nat.mul_le_mul_right _ (by omega)
           omega
          rw [if_pos (by rw [hzl];omega)] at hx
          have ep:i * sz+j - lo * sz=(i - lo) * sz+j:=by omega
          rw [ep,hzm] at hx
          have hrep:(repL (zeros E.zero) (hh - lo))[(i - lo) * sz+j]? = some c:=by
           rw [zg7 (by rw [zbu,hEy.len,← hsz];exact hlt2),zbu,hEy.len,← hsz]
           rw [Nat.mul_comm,Nat.mul_add_mod,Nat.mod_eq_of_lt hj'];exact hj
          exact (RelL.made hEy h ρ0 (hh - lo)).2 _ c x hrep hx
        · rw [if_neg hin] at hj
          have hj':j<sz:=by rw [← k3 i hi];exact (List.getElem?_eq_some_iff.1 hj).1
          have hout:¬ (lo * sz≤i * sz+j∧i * sz+j<lo * sz+zs.length):=by
           rw [hzl,hsum]
           intro hq
           by_cases h5:i<lo
           · have:(i+1) * sz≤lo * sz:=Nat.mul_le_mul_right _ (by omega)
             rw [Nat.add_mul,Nat.one_mul] at this
             omega
           · have:hh * sz≤i * sz:=Nat.mul_le_mul_right _ (by omega)
             omega
          rw [if_neg hout] at hx
          exact k4 i j c x hi hj hx
theorem zp8 (hΓ:zbb P Γ) (I:InvH N C h ρ F M g a w) {t t2:TypeId} {args:Array Operand} {tsa:Array TypeId} {y z:Operand} (ho:o.op = .call { callee:=.builtin .copy,args:=args,argTypes:=tsa }) (hts:tsa.toList=[t,t2]) (hargs:args.toList=[y,z]) {x1 x2:AV} (hx:Rel h ρ x1 (a.eval y)) (hx2:Rel h ρ x2 (a.eval z)) {r:R}
 (hr:zoC Γ mg t x1 x2=some r) (hm:∀ id,id∈r.rd→M id=mg id) (hc:∀ q,r.cs=some q→q):Good P N C h ρ F M g a o w r:=by
 have ha:args.map a.eval = #[a.eval y,a.eval z]:=by
  apply Array.ext';simp [hargs]
 have htsa:tsa = #[t,t2]:=by apply Array.ext';simp [hts]
 subst htsa
 unfold zoC at hr
 cases hT:tyOf Γ t with
 | none=>simp [hT] at hr
 | some T=>
 simp only [hT] at hr
 cases hd:T.d <;> simp only [hd] at hr <;> (try (cases hr;done))
 rename_i e
 cases hE:tyOf Γ e with
 | none=>simp [hE] at hr
 | some E=>
 simp only [hE] at hr
 have hu:=(hΓ t T hT).za4 hd
 have hEy:=hΓ e E hE
 cases hb1:Nat.beq 1 E.size with
 | false=>simp [hb1] at hr
 | true=>
 simp only [hb1] at hr
 have hE1:=Nat.eq_of_beq_eq_true hb1
 have hinfo:(P.info? e).map (·.size)=some 1:=by
  obtain ⟨i,i1,i2,_⟩:=hEy.info
  rw [i1];simp [i2,← hE1]
 -- the copy itself: what lies at the source goes over
 have core:∀ {ty n gg cap:Nat} {us:List Value} {cur:Array Value} (lo dl dc:Nat) (ad:Addr) (sl sc:Nat) (news:List Value),w.heap[gg]? = some (.cells cur ty (0,0))→news.length=min sl dl→lo+news.length≤cur.size→(∀ v∈news,v.oneCell'=true)→(∀ j v,news[j]? = some v→w.cell? (ad.add j)=some v) →
  (Builtin.copy_ #[t,t2] o.type #[.slice (some ⟨gg,lo,none⟩) dl dc,.slice (some ad) sl sc]).run P w = .ok (goInt news.length) (w.setRow gg (cur.toList.take lo++news++cur.toList.drop (lo+news.length)).toArray):=by
  intro ty n gg cap us cur lo dl dc ad sl sc news hg hn hfit h1 hsrc
  exact run_copy_row P w t t2 o.type e gg lo dl dc ad sl sc cur ty news hu hinfo hg hn hsrc hfit h1
 have nothing:∀ (d s:Option Addr) (dl dc sl sc:Nat),min sl dl=0→(Builtin.copy_ #[t,t2] o.type #[.slice d dl dc,.slice s sl sc]).run P w = .ok (goInt 0) w:=by
  intro d s dl dc sl sc hn
  exact run_copy_none w t t2 o.type e d s dl dc sl sc hu hinfo hn
 have same:∀ {k:Nat} {id ty n:Nat} {e1 e1':Nat→List AV} {q:Option Prop},k=0→M id=some (.buf ty 1 n e1)→(∀ i,e1' i=e1 i)→(Builtin.copy_ #[t,t2] o.type #[a.eval y,a.eval z]).run P w = .ok (goInt 0) w→Good P N C h ρ F M g a o w ⟨.int .i64 ((k:Nat):Int),[id],[(id,.buf ty 1 n e1')],q,none⟩:=by
  intro k id ty n e1 e1' q hk hM he hrun
  subst hk
  obtain rfl:e1'=e1:=funext he
  refine ⟨goInt 0,w,h,ρ,.inl (execOp_builtin ho (by simp only [builtin,ha,Sem.run_bind,hrun,Result.andThen_ok,Sem.run_pure])),?_,.int _ _ _⟩
  have:updL M [(id,.buf ty 1 n e1')]=M:=by
   funext q
   simp only [updL]
   by_cases hq:q=id
   · subst hq;rw [zah];exact hM.symm
   · rw [zae _ _ hq]
  show InvH N C h ρ F (updL M [(id,.buf ty 1 n e1')]) g a w
  rw [this];exact I
 have turned:∀ {id ty n gg cap lo:Nat} {us:List Value} {cur:Array Value} {e1 e1':Nat→List AV} {q:Option Prop} (news:List Value),ρ id=some (.sl n 1 (.slice (some ⟨gg,0,none⟩) n cap))→w.ownsRow 0 ty 1 (.slice (some ⟨gg,0,none⟩) n cap) n us→w.heap[gg]? = some (.cells cur ty (0,0))→lo+news.length≤n→(∀ v∈news,v.oneCell'=true) →
  (∀ x,x∈us→x.oneCell'=true)→(∀ i,i<n→(e1' i).length=1)→(∀ i c x,i<n→(e1' i)[0]? = some c→(if lo≤i∧i<lo+news.length then news[i - lo]? else us[i]?)=some x→Rel h ρ0 c x) →
  (Builtin.copy_ #[t,t2] o.type #[a.eval y,a.eval z]).run P w = .ok (goInt news.length) (w.setRow gg (cur.toList.take lo++news++cur.toList.drop (lo+news.length)).toArray) →
  Good P N C h ρ F M g a o w ⟨.int .i64 ((news.length:Nat):Int),[id],[(id,.buf ty 1 n e1')],q,none⟩:=by
  intro id ty n gg cap lo us cur e1 e1' q news k1 k2 hg hfit hn1 k5 hl hrel hrun
  obtain ⟨cur2,c1,c2,c3⟩:=zdz k2 lo news (by omega)
  rw [hg] at c1;cases c1
  refine ⟨goInt news.length,w.setRow gg (cur.toList.take lo++news++cur.toList.drop (lo+news.length)).toArray,h,ρ,.inl (execOp_builtin ho (by simp only [builtin,ha,Sem.run_bind,hrun,Result.andThen_ok,Sem.run_pure])),I.zg2 k1 _ rfl rfl rfl (by simp) (fun kk hk=>setRow_other w gg kk _ (fun ee=>hk (by rw [ee];rfl))) ?_,.int _ _ _⟩
  have hus:us.length=n:=by have:=k2.1;simpa using this
  refine ⟨_,_,k1,c3,hl,fun u hu=>?_,fun i j c x hi hj hx=>?_⟩
  · rw [List.mem_append,List.mem_append] at hu
    rcases hu with (hu|hu)|hu
    · exact k5 u (List.mem_of_mem_take hu)
    · exact hn1 u hu
    · exact k5 u (List.mem_of_mem_drop hu)
  · have hj0:j=0:=by
     have:=(List.getElem?_eq_some_iff.1 hj).1
     rw [hl i hi] at this;omega
    subst hj0
    rw [Nat.mul_one,Nat.add_zero,zeH _ _ _ (by omega)] at hx
    exact hrel i c x hi hj hx
 cases x1 <;> (try simp only [] at hr) <;> (try (cases hr;done))
 case buf id n=>
  cases x2 <;> (try simp only [] at hr) <;> (try (cases hr;done))
  rename_i sz2 n2 e2
  cases hg:mg id with
  | none=>simp [hg] at hr
  | some bl=>
  cases bl <;> simp only [hg] at hr <;> (try (cases hr;done))
  rename_i ty sz n' e1
  split at hr
  rotate_left
  · cases hr
  rename_i hbb
  simp only [Bool.and_eq_true] at hbb
  obtain ⟨⟨hb2,hb3⟩,hb4⟩:=hbb
  have hsz:=Nat.eq_of_beq_eq_true hb3
  have hsz2:=Nat.eq_of_beq_eq_true hb4
  subst sz;subst sz2
  cases hr
  obtain rfl:=hc _ rfl
  have hMid:M id=some (.buf ty 1 n e1):=(hm id (by simp)).trans hg
  obtain ⟨v0,us,k1,k2,k3,k5,k4⟩:=I.blk id _ hMid
  have hye:a.eval y=v0:=by
   generalize a.eval y=q at hx
   cases hx with
   | buf _ _ _ _ _ _ _ hb' hle k1' he=>rw [k1] at hb';cases hb';exact he rfl
  obtain ⟨ad2,cap2,hze,hcap2⟩:=zg6 hx2
  by_cases hz:min n2 n=0
  · refine same hz hMid (fun i=>?_) ?_
    · rw [if_neg (by omega)]
    · rw [hye,hze]
      obtain ⟨ad,cap,rfl,_,_⟩:=zg8 k2
      exact nothing _ _ _ _ _ _ hz
  · rcases k2.2 with ⟨_,h0⟩|⟨gg,cap,cur,rfl,_,q3,q4,q5,q6,q7⟩
    · omega
    rw [hze] at hx2
    cases hx2 with
    | ro _ _ _ _ _ _ hnil hcp hl2 hs2 h12 hc2=>
    cases ad2 with
    | none=>have:=hnil rfl;omega
    | some ad2=>
    have hcell:∀ j,j<n2→∃ v,cellOf h (ad2.add j)=some v:=fun j hj=>by
     have:=hs2 j 0 hj (by omega)
     simp only [Nat.mul_one,Nat.add_zero,hcell] at this
     exact Option.isSome_iff_exists.1 this
    obtain ⟨news,hnews⟩:∃ news,(List.range (min n2 n)).map (fun j=>(cellOf h (ad2.add j)).getD undef)=news:=⟨_,rfl⟩
    have hnl:news.length=min n2 n:=by rw [← hnews];simp
    have hnget:∀ j v,news[j]? = some v→j<min n2 n∧cellOf h (ad2.add j)=some v:=fun j v hj=>by
     have hlt:j<min n2 n:=by rw [← hnl];exact (List.getElem?_eq_some_iff.1 hj).1
     obtain ⟨u,hu⟩:=hcell j (by omega)
     rw [← hnews,List.getElem?_map,List.getElem?_range hlt] at hj
     simp [hu] at hj
     exact ⟨hlt,hj▸hu⟩
    have hcur:n * 1≤cur.size:=by rw [q6];exact Nat.mul_le_mul_right _ q4
    have h1n:∀ v∈news,v.oneCell'=true:=fun v hv=>by
     obtain ⟨j,hj⟩:=List.getElem?_of_mem hv
     obtain ⟨k6,k7⟩:=hnget j v hj
     exact h12 j v (by omega) k7
    have:=turned (id:=id) (lo:=0) (e1:=e1) (e1':=fun q=>if q<min n2 n then e2 q else e1 q) (q:=some (n=n)) news k1 k2 q3 (by omega) h1n k5 (fun i hi=>by
     show (if i<min n2 n then e2 i else e1 i).length=1
     split
     · exact hl2 i (by omega)
     · exact k3 i hi) (fun i c x hi hcc hxx=>by
     replace hcc:(if i<min n2 n then e2 i else e1 i)[0]? = some c:=hcc
     by_cases hin:i<min n2 n
     · rw [if_pos hin] at hcc
       rw [if_pos (by omega)] at hxx
       obtain ⟨_,k7⟩:=hnget _ _ hxx
       exact hc2 i 0 c x (by omega) hcc (by rw [Nat.mul_one,Nat.add_zero];exact k7)
     · rw [if_neg hin] at hcc
       rw [if_neg (by omega)] at hxx
       exact k4 i 0 c x hi hcc (by simpa using hxx)) (by
     rw [hye,hze]
     exact core (ty:=ty) (n:=0) (cap:=0) (us:=[]) 0 n cap ad2 n2 cap2 news q3 hnl (by omega) h1n (fun j v hj=>I.cell (hnget j v hj).2))
    rw [hnl] at this
    exact this
 case sb id n lo hh=>
  cases x2 <;> (try simp only [] at hr) <;> (try (cases hr;done))
  rename_i id2 n2 lo2 hh2
  cases hg:mg id with
  | none=>simp [hg] at hr
  | some bl=>
  cases bl <;> simp only [hg] at hr <;> (try (cases hr;done))
  rename_i ty sz n' e1
  split at hr
  rotate_left
  · cases hr
  rename_i hbb
  simp only [Bool.and_eq_true] at hbb
  obtain ⟨⟨hb2,hb3⟩,hb4⟩:=hbb
  have hsz:=Nat.eq_of_beq_eq_true hb3
  have hid:=Nat.eq_of_beq_eq_true hb4
  subst sz;subst id2
  cases hr
  obtain ⟨rfl,hn2,ha1,ha2,ha3,ha4⟩:=hc _ rfl
  subst n2
  have hMid:M id=some (.buf ty 1 n e1):=(hm id (by simp)).trans hg
  obtain ⟨v0,us,k1,k2,k3,k5,k4⟩:=I.blk id _ hMid
  generalize hye:a.eval y=yv at hx
  generalize hze:a.eval z=zv at hx2
  cases hx with
  | sb _ _ _ _ _ m1 sz1 yv v1 hb hle h1 he=>
  rw [k1] at hb;cases hb
  obtain ⟨gg,cap,rfl,rfl⟩:=he rfl
  cases hx2 with
  | sb _ _ _ _ _ m1 sz1 zv v1 hb' hle' h1' he'=>
  rw [k1] at hb';cases hb'
  obtain ⟨gg',cap',q,rfl⟩:=he' rfl
  cases q
  by_cases hz:min (hh2 - lo2) (hh - lo)=0
  · refine same hz hMid (fun i=>?_) ?_
    · rw [if_neg (by omega)]
    · rw [hye,hze];exact nothing _ _ _ _ _ _ hz
  · rcases k2.2 with ⟨q,_⟩|⟨g1,cap1,cur,q,_,q3,q4,q5,q6,q7⟩
    · cases q
    cases q
    have hus:us.length=n:=by have:=k2.1;simpa using this
    have hcur:n≤cur.size:=by rw [q6];omega
    obtain ⟨news,hnews⟩:∃ news,(us.drop lo2).take (min (hh2 - lo2) (hh - lo))=news:=⟨_,rfl⟩
    have hnl:news.length=min (hh2 - lo2) (hh - lo):=by rw [← hnews,List.length_take,List.length_drop];omega
    have hnget:∀ j,j<news.length→news[j]? = us[lo2+j]? := fun j hj=>by
     rw [← hnews,List.getElem?_take,if_pos (by omega),List.getElem?_drop]
    have h1n:∀ v∈news,v.oneCell'=true:=fun v hv=>k5 v (by rw [← hnews] at hv;exact List.mem_of_mem_drop (List.mem_of_mem_take hv))
    have:=turned (id:=id) (lo:=lo) (e1:=e1) (e1':=fun q=>if lo≤q∧q<lo+min (hh2 - lo2) (hh - lo) then e1 (lo2+(q - lo)) else e1 q) (q:=some (n=n∧n=n∧lo≤hh∧hh≤n∧lo2≤hh2∧hh2≤n)) news k1 k2 q3 (by omega) h1n k5 (fun i hi=>by
     show (if lo≤i∧i<lo+min (hh2 - lo2) (hh - lo) then e1 (lo2+(i - lo)) else e1 i).length=1
     split
     · exact k3 _ (by omega)
     · exact k3 i hi) (fun i c x hi hcc hxx=>by
     replace hcc:(if lo≤i∧i<lo+min (hh2 - lo2) (hh - lo) then e1 (lo2+(i - lo)) else e1 i)[0]? = some c:=hcc
     by_cases hin:lo≤i∧i<lo+min (hh2 - lo2) (hh - lo)
     · rw [if_pos hin] at hcc
       rw [if_pos (by omega),hnget _ (by omega)] at hxx
       exact k4 _ 0 c x (by omega) hcc (by simpa using hxx)
     · rw [if_neg hin] at hcc
       rw [if_neg (by omega)] at hxx
       exact k4 i 0 c x hi hcc (by simpa using hxx)) (by
     have e1':(if cap=lo then (⟨gg,0,none⟩:Addr) else ⟨gg,lo * 1,none⟩)=⟨gg,lo,none⟩:=by rw [if_neg (by omega),Nat.mul_one]
     have e2':(if cap=lo2 then (⟨gg,0,none⟩:Addr) else ⟨gg,lo2 * 1,none⟩)=⟨gg,lo2,none⟩:=by rw [if_neg (by omega),Nat.mul_one]
     rw [hye,hze,e1',e2']
     refine core (ty:=ty) (n:=0) (cap:=0) (us:=[]) lo (hh - lo) (cap - lo) ⟨gg,lo2,none⟩ (hh2 - lo2) (cap - lo2) news q3 hnl (by omega) h1n (fun j v hj=>?_)
     have hlt:=(List.getElem?_eq_some_iff.1 hj).1
     rw [hnget j hlt] at hj
     have:=k2.cells (g:=gg) rfl (lo2+j) v hj
     rw [Addr.add_lit] at this ⊢
     simpa using this)
    rw [hnl] at this
    exact this
end
end Go.Av
end
/- Rows that are owned, and grow: a slice of one owned row; an append of owned rows to owned rows. -/
section
set_option linter.all false
namespace Go.Av
section
variable {P:Program} {N:Nat} {C:Ctx} {h:Hp} {ρ:Rho} {F:Fr} {M:Mm} {g:Nat} {a:Act} {w:World} {Γ:Tys} {mg:Mm} {o:Oper}
theorem zl0 {own:List Nat} {d:Nat} {E:TyD} {ty sz:Nat} (h:zlj Γ own d E=some (ty,sz)):E.size=1:=by
 unfold zlj at h
 repeat' split at h
 all_goals first
  | (cases h;done)
  | (rename_i hb;exact Nat.eq_of_beq_eq_true hb)
theorem zou (hΓ:zbb P Γ) (I:InvH N C h ρ F M g a w) {own:List Nat} {t:TypeId} {n:Nat} {ps:Array (Nat×Operand)} (ho:o.op = .buildSlice t n ps) {T:TyD} (hT:tyOf Γ t=some T) {e:TypeId} (hd:T.d = .slice e)
 {E:TyD} (hE:tyOf Γ e=some E) (hsz:n * E.size≤16777216) {val:Operand→AV} (hv:∀ x,x∈o.op.operands→Rel h ρ (val x) (a.eval x)) {cs:List AV}
 (hl:zcj (repL (zeros E.zero) n) (fun i=>some (i * E.size,E.size)) (zd9 val ps.toList)=some cs) {r:R} (hr:zkt Γ own mg o e E n cs=some r)
 (hm:∀ id,id∈r.rd→M id=mg id) (hc:∀ q,r.cs=some q→q):Good P N C h ρ F M g a o w r:=by
 unfold zkt at hr
 split at hr
 rotate_left
 · cases hr
 rename_i id k
 split at hr
 rotate_left
 · cases hr
 rename_i d hd'
 split at hr
 rotate_left
 · cases hr
 rename_i hmd
 split at hr
 rotate_left
 · cases hr
 rename_i ty sz hgo
 split at hr
 rotate_left
 · cases hr
 rename_i ty2 sz2 k2 e2 hmi
 split at hr
 rotate_left
 · cases hr
 rename_i hbb
 simp only [Bool.and_eq_true] at hbb
 have q1:=Nat.eq_of_beq_eq_true hbb.1
 have q2:=Nat.eq_of_beq_eq_true hbb.2
 subst q1;subst q2
 cases hr
 obtain rfl:=hc _ rfl
 have hdn:M d=none:=(hm d (by simp)).trans hmd
 have hM:M id=some (.buf ty sz k e2):=(hm id (by simp)).trans hmi
 have hne:id≠d:=by rintro rfl;rw [hM] at hdn;cases hdn
 have hE1:=zl0 hgo
 obtain ⟨us,h1,h2,h3⟩:=zeJ (w:=w) hΓ hT hd hE hsz (fun p hp=>hv p.2 (by rw [ho];exact zfK hp)) hl
 obtain ⟨v0,xs,f1,f2,f3,f5,f4⟩:=I.blk id _ hM
 match us,h2 with
 | [v2],_=>
 have hrel:=h1.2 0 _ v2 rfl rfl
 have hx:v2=v0∧v0.oneCell'=true:=by
  cases hrel with
  | buf _ _ _ _ _ _ _ hb hle k1 he=>rw [f1] at hb;cases hb;have:=he rfl;subst this;exact ⟨rfl,k1⟩
 obtain ⟨rfl,hone⟩:=hx
 have hlt:∀ b,v2.ownBlock=some b→b<w.heap.size∧h b=none:=fun b hb=>⟨(I.own id _ b f1 hb).2.1,(I.own id _ b f1 hb).1⟩
 obtain ⟨ρ',hρ'⟩:∃ ρ',upd (upd ρ d (some (.grid (.slice (some ⟨w.heap.size,0,none⟩) 1 1) sz [(k,v2)]))) id (some (.sl (k+1) sz (.slice none 0 0)))=ρ':=⟨_,rfl⟩
 have r1:ρ' d=some (.grid (.slice (some ⟨w.heap.size,0,none⟩) 1 1) sz [(k,v2)]):=by rw [← hρ',zae _ _ (Ne.symm hne),zah]
 have r2:ρ' id=some (.sl (k+1) sz (.slice none 0 0)):=by rw [← hρ',zah]
 have r3:∀ j,¬ (j=d∨j=id)→ρ' j=ρ j:=fun j hj=>by rw [← hρ',zae _ _ (fun e=>hj (.inr e)),zae _ _ (fun e=>hj (.inl e))]
 have hρd:=I.dom d hdn
 have hrow:∀ (ii:Nat) (y:Nat×Value),([(k,v2)]:List (Nat×Value))[ii]? = some y→ii=0∧y=(k,v2):=fun ii y hy=>by
  cases ii with
  | zero=>simp at hy;exact ⟨rfl,hy.symm⟩
  | succ ii=>simp at hy
 refine ⟨.slice (some ⟨w.heap.size,0,none⟩) 1 1,w.alloc (.cells [v2].toArray e),h,ρ',.inl ?_,I.step (S:=fun j=>j=d∨j=id) (w':=w.alloc (.cells [v2].toArray e)) rfl rfl rfl (by simp)
  (fun kk hk _=>RowKit.Below.heap_alloc w _ kk hk) r3 ?_ (fun _ _ h=>h) (fun _ _ h=>.inl h) ?_ ?_ ?_ ?_ ?_,.gb _ _ _ _ _ r1 (fun v1 sz1 rows1 ee=>by cases ee;exact ⟨Nat.le_refl _,fun _=>rfl⟩) rfl⟩
 · unfold execOp
   simp only [ho,Sem.run_bind,h3,Result.andThen_ok,Sem.run_pure]
 · intro j li hj
   by_cases hj1:j=d
   · subst hj1;rw [hρd] at hj;cases hj
   · by_cases hj2:j=id
     · subst hj2
       rw [f1] at hj;cases hj
       exact ⟨_,r2,.inr (.inl ⟨_,_,_,_,_,rfl,rfl,Nat.lt_succ_self _⟩)⟩
     · exact ⟨li,by rw [r3 j (by simp [hj1,hj2])];exact hj,.inl rfl⟩
 · intro j hj
   simp only [not_or] at hj
   show updL M _ j=M j
   simp only [updL]
   rw [zae _ _ hj.2,zae _ _ hj.1]
 · rintro j (rfl|rfl) hM'
   · simp only [updL] at hM';rw [zae _ _ (Ne.symm hne),zah] at hM';cases hM'
   · simp only [updL] at hM';rw [zah] at hM';cases hM'
 · rintro j y (rfl|rfl) hM'
   · simp only [updL] at hM';rw [zae _ _ (Ne.symm hne),zah] at hM';cases hM'
     refine ⟨_,_,r1,rfl,⟨rfl,.inr ⟨w.heap.size,1,[v2].toArray,rfl,Nat.zero_le _,heap_alloc_new w _,Nat.le_refl _,by unfold maxLen;omega,rfl,rfl⟩⟩,fun ii y hy=>?_,fun ii ii' y y' bb hy hy' hb1 hb2=>?_,fun ii y bb hy hb1 hb2=>?_⟩
     · obtain ⟨rfl,rfl⟩:=hrow ii y hy
       exact ⟨rfl,hone,xs,zbp f2 (fun bb hbb=>RowKit.Below.heap_alloc w _ bb (hlt bb hbb).1),f3,f5,f4⟩
     · obtain ⟨rfl,_⟩:=hrow ii y hy
       obtain ⟨rfl,_⟩:=hrow ii' y' hy'
       rfl
     · obtain ⟨rfl,rfl⟩:=hrow ii y hy
       have:=(hlt bb hb1).1
       simp [Value.ownBlock] at hb2
       omega
   · simp only [updL] at hM';rw [zah] at hM';cases hM'
     exact ⟨_,_,r2⟩
 · rintro j li bb (rfl|rfl) hr hb1
   · rw [r1] at hr;cases hr
     rcases hb1 with hb1|⟨y,hy,hb1⟩
     · simp [Value.ownBlock] at hb1
       subst hb1
       refine .inr ⟨Nat.le_refl _,by simp,?_⟩
       cases hb:h w.heap.size with
       | none=>rfl
       | some o'=>have:=I.hlt hb;omega
     · simp at hy;subst hy
       exact .inl ⟨id,_,.inr rfl,f1,hb1⟩
   · rw [r2] at hr;cases hr
     simp [LI.owns,Value.ownBlock] at hb1
 · rintro j j' li li' bb (rfl|rfl) (rfl|rfl) hr hr' hb1 hb2
   · rfl
   · rw [r2] at hr';cases hr';simp [LI.owns,Value.ownBlock] at hb2
   · rw [r2] at hr;cases hr;simp [LI.owns,Value.ownBlock] at hb1
   · rfl
theorem znr (hΓ:zbb P Γ) (I:InvH N C h ρ F M g a w) {t:TypeId} {x y:Operand} (ho:o.op = .call { callee:=.builtin .append,args:=#[x,y],argTypes:=#[t,t] }) {id n id2 n2:Nat} (hx:Rel h ρ (.gb id n) (a.eval x)) (hy:Rel h ρ (.gb id2 n2) (a.eval y)) {r:R}
 (hr:zjc Γ mg t id n id2 n2=some r) (hm:∀ id,id∈r.rd→M id=mg id) (hc:∀ q,r.cs=some q→q):Good P N C h ρ F M g a o w r:=by
 unfold zjc at hr
 split at hr
 rotate_left
 · cases hr
 rename_i T hT
 split at hr
 rotate_left
 · cases hr
 rename_i e hd
 split at hr
 rotate_left
 · cases hr
 rename_i E hE
 split at hr
 rotate_left
 · cases hr
 rename_i hb0
 split at hr
 rotate_left
 · cases hr
 rename_i tS ty sz n' m el hg1
 split at hr
 rotate_left
 · cases hr
 rename_i tS2 ty2 sz2 n2' m2 el2 hg2
 split at hr
 rotate_left
 · cases hr
 rename_i hbb
 simp only [Bool.and_eq_true,Bool.not_eq_true'] at hb0 hbb
 have hE1:=Nat.eq_of_beq_eq_true hb0.1
 have q1:=Nat.eq_of_beq_eq_true hbb.1.1
 have q2:=Nat.eq_of_beq_eq_true hbb.1.2
 have q3:=Nat.eq_of_beq_eq_true hbb.2
 subst q1;subst q2;subst q3
 cases hr
 obtain ⟨rfl,rfl,hpos,hroom⟩:=hc _ rfl
 have hne:id≠id2:=fun ee=>by subst ee;simp at hb0
 have hM1:=(hm id (by simp)).trans hg1
 have hM2:=(hm id2 (by simp)).trans hg2
 have hEy:=hΓ tS E hE
 have hu:=(hΓ t T hT).za4 hd
 obtain ⟨i,i1,i2,i3,i4⟩:=hEy.info
 obtain ⟨v0,rows,e1,e0,e3,e4,e5,e6⟩:=I.blk id _ hM1
 obtain ⟨v2,rows2,f1,f0,f3,f4,f5,f6⟩:=I.blk id2 _ hM2
 have hx1:a.eval x=v0:=by
  generalize a.eval x=z at hx
  cases hx with
  | gb _ _ _ _ _ hb hgg k1=>rw [e1] at hb;cases hb;exact (hgg _ _ _ rfl).2 e0.symm
 have hy1:a.eval y=v2:=by
  generalize a.eval y=z at hy
  cases hy with
  | gb _ _ _ _ _ hb hgg k1=>rw [f1] at hb;cases hb;exact (hgg _ _ _ rfl).2 f0.symm
 have f3':=f3
 rcases f3.2 with ⟨_,q⟩|⟨g2,cap2,cur2,rfl,_⟩
 · omega
 have hcells:=fun j u hj=>f3'.cells (g:=g2) rfl j u hj
 obtain ⟨v',w',r1,own',gr,_,r5⟩:=run_append_own_at (P:=P) w 0 t o.type tS i E.zeroV 1 E.bytes hu i1 i4 (i2.trans hE1) i3 (by rw [zbd hEy];simpa [hE1] using hEy.len) (by omega) v0 n (rows.map (·.2)) e3
  ⟨g2,0,none⟩ n2 cap2 (rows2.map (·.2)) (by simp;omega) (fun j u hj=>by rw [Addr.add_lit,Nat.zero_add];have:=hcells j u hj;rwa [Addr.add_lit,Nat.zero_add] at this) (fun u hu'=>by
   obtain ⟨rw_,hr,rfl⟩:=List.mem_map.1 hu'
   obtain ⟨k,hk⟩:=List.getElem?_of_mem hr
   exact (f4 k rw_ hk).2.1) (zgg hroom) hroom.1 (Nat.zero_le _)
 have own1:∀ b,v0.ownBlock=some b→b<w.heap.size∧h b=none:=fun b hb=>⟨(I.own id _ b e1 (.inl hb)).2.1,(I.own id _ b e1 (.inl hb)).1⟩
 have ownr1:∀ (k:Nat) (y:Nat×Value) (b:Nat),rows[k]? = some y→y.2.ownBlock=some b→b<w.heap.size:=fun k y b hk hb=>(I.own id _ b e1 (.inr ⟨y,List.mem_of_getElem? hk,hb⟩)).2.1
 have ownr2:∀ (k:Nat) (y:Nat×Value) (b:Nat),rows2[k]? = some y→y.2.ownBlock=some b→b<w.heap.size:=fun k y b hk hb=>(I.own id2 _ b f1 (.inr ⟨y,List.mem_of_getElem? hk,hb⟩)).2.1
 have sep:∀ (li:LI) (b:Nat),ρ id=some li→li.owns b→∀ (k:Nat) (y:Nat×Value),rows2[k]? = some y→y.2.ownBlock≠some b:=fun li b hli hb k y hk hy=>hne (I.inj id id2 _ _ b hli f1 hb (.inr ⟨y,List.mem_of_getElem? hk,hy⟩))
 obtain ⟨ρ',hρ'⟩:∃ ρ',upd (upd ρ id (some (.grid v' sz (rows++rows2)))) id2 (some (.sl 0 sz (.slice none 0 0)))=ρ':=⟨_,rfl⟩
 have s1:ρ' id=some (.grid v' sz (rows++rows2)):=by rw [← hρ',zae _ _ hne,zah]
 have s2:ρ' id2=some (.sl 0 sz (.slice none 0 0)):=by rw [← hρ',zah]
 have s3:∀ j,¬ (j=id∨j=id2)→ρ' j=ρ j:=fun j hj=>by rw [← hρ',zae _ _ (fun e=>hj (.inr e)),zae _ _ (fun e=>hj (.inl e))]
 have hcase:∀ (ii:Nat) (y:Nat×Value),(rows++rows2)[ii]? = some y→(ii<n∧rows[ii]? = some y)∨(n≤ii∧rows2[ii - n]? = some y):=fun ii y hy=>by
  by_cases hi:ii<n
  · rw [List.getElem?_append_left (by omega)] at hy;exact .inl ⟨hi,hy⟩
  · rw [List.getElem?_append_right (by omega),e0] at hy;exact .inr ⟨by omega,hy⟩
 have hvb:∀ (k:Nat) (y:Nat×Value) (b:Nat),(rows++rows2)[k]? = some y→y.2.ownBlock=some b→v0.ownBlock≠some b:=fun k y b hk hb hv=>by
  rcases hcase k y hk with ⟨_,hk⟩|⟨_,hk⟩
  · exact e6 k y b hk hb hv
  · exact sep _ b e1 (.inl hv) _ y hk hb
 have hlt:∀ (k:Nat) (y:Nat×Value) (b:Nat),(rows++rows2)[k]? = some y→y.2.ownBlock=some b→b<w.heap.size:=fun k y b hk hb=>by
  rcases hcase k y hk with ⟨_,hk⟩|⟨_,hk⟩
  · exact ownr1 k y b hk hb
  · exact ownr2 _ y b hk hb
 have hcell:v'.oneCell'=true:=by
  rcases own'.2 with ⟨rfl,_⟩|⟨_,_,_,rfl,_⟩ <;> rfl
 refine ⟨v',w',h,ρ',.inl (zei ho (by rw [hx1,hy1];exact r1)),I.step (S:=fun j=>j=id∨j=id2) (w':=w') gr.os gr.tape gr.output gr.size
  (fun kk hk hn=>gr.block kk hk (fun ee=>hn id _ (.inl rfl) e1 (.inl ee.symm))) s3 ?_ (fun _ _ h=>h) (fun _ _ h=>.inl h) ?_ ?_ ?_ ?_ ?_,.gb _ _ _ _ _ s1 (fun v1 sz1 rows1 ee=>by cases ee;exact ⟨by simp;omega,fun _=>rfl⟩) hcell⟩
 · intro j li hj
   by_cases hj1:j=id
   · subst hj1
     rw [e1] at hj;cases hj
     exact ⟨_,s1,.inr (.inr (.inl ⟨_,_,_,_,_,rfl,rfl,by simp,fun ee=>absurd ee (by rw [List.length_append];omega),fun ii mm x hh=>.inl (by rw [List.getElem?_append_left (List.getElem?_eq_some_iff.1 hh).1];exact hh)⟩))⟩
   · by_cases hj2:j=id2
     · subst hj2
       rw [f1] at hj;cases hj
       exact ⟨_,s2,.inr (.inr (.inr (.inl ⟨_,_,_,_,_,rfl,rfl⟩)))⟩
     · exact ⟨li,by rw [s3 j (by simp [hj1,hj2])];exact hj,.inl rfl⟩
 · intro j hj
   simp only [not_or] at hj
   show updL M _ j=M j
   simp only [updL]
   rw [zae _ _ hj.2,zae _ _ hj.1]
 · rintro j (rfl|rfl) hM'
   · simp only [updL] at hM';rw [zae _ _ hne,zah] at hM';cases hM'
   · simp only [updL] at hM';rw [zah] at hM';cases hM'
 · rintro j y (rfl|rfl) hM'
   · simp only [updL] at hM';rw [zae _ _ hne,zah] at hM';cases hM'
     refine ⟨_,_,s1,by simp;omega,by rw [List.map_append];exact own',fun ii y hy=>?_,fun ii ii' y y' bb hy hy' hb1 hb2=>?_,fun ii y bb hy hb1 hb2=>?_⟩
     · have hk:∀ b,y.2.ownBlock=some b→w'.heap[b]? = w.heap[b]? := fun b hb=>gr.block b (hlt ii y b hy hb) (fun ee=>hvb ii y b hy hb ee.symm)
       rcases hcase ii y hy with ⟨hi,hy1⟩|⟨hi,hy1⟩
       · obtain ⟨g0,g1,xs,g2',g3,g4,g5⟩:=e4 ii y hy1
         refine ⟨by show y.1=if ii<n then m ii else m2 (ii - n);rw [if_pos hi];exact g0,g1,xs,zbp g2' hk,fun j hj=>?_,g4,fun j k c u hj hc' hu'=>?_⟩
         · simp only [hi,if_true] at hj ⊢;exact g3 j hj
         · simp only [hi,if_true] at hj hc';exact g5 j k c u hj hc' hu'
       · obtain ⟨g0,g1,xs,g2',g3,g4,g5⟩:=f4 _ y hy1
         have hi':¬ ii<n:=by omega
         refine ⟨by show y.1=if ii<n then m ii else m2 (ii - n);rw [if_neg hi'];exact g0,g1,xs,zbp g2' hk,fun j hj=>?_,g4,fun j k c u hj hc' hu'=>?_⟩
         · simp only [hi',if_false] at hj ⊢;exact g3 j hj
         · simp only [hi',if_false] at hj hc';exact g5 j k c u hj hc' hu'
     · rcases hcase ii y hy with ⟨hi,hy1⟩|⟨hi,hy1⟩ <;> rcases hcase ii' y' hy' with ⟨hi',hy1'⟩|⟨hi',hy1'⟩
       · exact e5 ii ii' y y' bb hy1 hy1' hb1 hb2
       · exact absurd hb2 (sep _ bb e1 (.inr ⟨y,List.mem_of_getElem? hy1,hb1⟩) _ y' hy1')
       · exact absurd hb1 (sep _ bb e1 (.inr ⟨y',List.mem_of_getElem? hy1',hb2⟩) _ y hy1)
       · have:=f5 _ _ y y' bb hy1 hy1' hb1 hb2
         omega
     · rcases r5 with q|q
       · rw [q] at hb2;exact hvb ii y bb hy hb1 hb2
       · rw [q] at hb2;cases hb2
         have:=hlt ii y _ hy hb1
         omega
   · simp only [updL] at hM';rw [zah] at hM';cases hM'
     exact ⟨_,_,s2⟩
 · rintro j li bb (rfl|rfl) hr hb1
   · rw [s1] at hr;cases hr
     rcases hb1 with hb1|⟨y,hy,hb1⟩
     · rcases r5 with q|q
       · exact .inl ⟨j,_,.inl rfl,e1,.inl (q▸hb1)⟩
       · rw [q] at hb1;cases hb1
         refine .inr ⟨Nat.le_refl _,(own'.lt _ q).2,?_⟩
         cases hb:h w.heap.size with
         | none=>rfl
         | some o'=>have:=I.hlt hb;omega
     · rcases List.mem_append.1 hy with hy|hy
       · exact .inl ⟨j,_,.inl rfl,e1,.inr ⟨y,hy,hb1⟩⟩
       · exact .inl ⟨id2,_,.inr rfl,f1,.inr ⟨y,hy,hb1⟩⟩
   · rw [s2] at hr;cases hr
     simp [LI.owns,Value.ownBlock] at hb1
 · rintro j j' li li' bb (rfl|rfl) (rfl|rfl) hr hr' hb1 hb2
   · rfl
   · rw [s2] at hr';cases hr';simp [LI.owns,Value.ownBlock] at hb2
   · rw [s2] at hr;cases hr;simp [LI.owns,Value.ownBlock] at hb1
   · rfl
end
end Go.Av
end
/- The evaluator is right: the whole, for operations that call no Go function. -/
section
set_option linter.all false
namespace Go.Av
section
variable {P:Program} {N:Nat} {C:Ctx} {h:Hp} {ρ:Rho} {F:Fr} {M:Mm} {g:Nat} {a:Act} {w:World} {Γ:Tys} {mg:Mm} {o:Oper} {own:List Nat}
theorem ziq {α:Type} {l:List α} (h:l.length=1):∃ x,l=[x]:=by
 match l,h with
 | [x],_=>exact ⟨x,rfl⟩
theorem zj9 {α:Type} {l:List α} (h:l.length=2):∃ x y,l=[x,y]:=by
 match l,h with
 | [x,y],_=>exact ⟨x,y,rfl⟩
theorem znp (hΓ:zbb P Γ) (I:InvH N C h ρ F M g a w) {b:Builtin} {args:Array Operand} {tsa:Array TypeId} (ho:o.op = .call { callee:=.builtin b,args:=args,argTypes:=tsa }) {val:Operand→AV} (hv:∀ y,y∈o.op.operands→Rel h ρ (val y) (a.eval y)) {r:R}
 (hr:zes Γ mg o b tsa.toList (zfb val args.toList)=some r) (hm:∀ id,id∈r.rd→M id=mg id) (hc:∀ q,r.cs=some q→q):Good P N C h ρ F M g a o w r:=by
 have hargs:∀ x∈args.toList,Rel h ρ (val x) (a.eval x):=fun x hx=>hv x (zdY ho hx)
 have hrel:=zdZ args.toList hargs
 unfold zes at hr
 split at hr
 · -- len
   rename_i t ts x hts hxs
   rw [zep] at hxs
   obtain ⟨y,hy⟩:∃ y,args.toList=[y]:=ziq (by have:=congrArg List.length hxs;simpa using this)
   have hxy:x=val y:=by rw [hy] at hxs;simp at hxs;exact hxs.symm
   subst hxy
   exact ev_len hΓ I ho hts hy (hargs y (by rw [hy];simp)) (by simp only [zes];exact hr) hm hc
 · -- clear
   rename_i t ts x hts hxs
   rw [zep] at hxs
   obtain ⟨y,hy⟩:∃ y,args.toList=[y]:=ziq (by have:=congrArg List.length hxs;simpa using this)
   have hxy:x=val y:=by rw [hy] at hxs;simp at hxs;exact hxs.symm
   subst hxy
   exact zpy hΓ I ho hts hy (hargs y (by rw [hy];simp)) hr hm hc
 · -- cap
   rename_i t ts hts hxs
   rw [zep] at hxs
   obtain ⟨y,hy⟩:∃ y,args.toList=[y]:=ziq (by have:=congrArg List.length hxs;simpa using this)
   have hxy:val y = .nilS:=by rw [hy] at hxs;simpa using hxs
   split at hr
   · rename_i T hT
     split at hr
     · rename_i e hd
       cases hr
       have hx:=hargs y (by rw [hy];simp)
       rw [hxy] at hx
       have he:a.eval y = .slice none 0 0:=by generalize a.eval y=v at hx;cases hx;rfl
       have hu:=(hΓ t T hT).za4 hd
       have ha:args.map a.eval = #[.slice none 0 0]:=by apply Array.ext';simp [hy,he]
       have ht0:tsa[0]? = some t:=by rw [← Array.getElem?_toList,hts];rfl
       refine Good.same I (x:=.int .i64 0) (.inl (execOp_builtin ho ?_)) rfl (.int _ _ _)
       have hcap:(Builtin.cap_ tsa o.type #[.slice none 0 0]).run P w = .ok (.int .i64 0) w:=by
        simp [Builtin.cap_,ht0,run_underlying hu,goInt]
       simp only [builtin,ha,Sem.run_bind,hcap,Result.andThen_ok,Sem.run_pure]
     · cases hr
   · cases hr
 · -- copy
   rename_i t t2 x1 x2 hts hxs
   rw [zep] at hxs
   obtain ⟨y,z,hyz⟩:∃ y z,args.toList=[y,z]:=zj9 (by have:=congrArg List.length hxs;simpa using this)
   have hs:x1=val y∧x2=val z:=by rw [hyz] at hxs;simp at hxs;exact ⟨hxs.1.symm,hxs.2.symm⟩
   obtain ⟨rfl,rfl⟩:=hs
   exact zp8 hΓ I ho hts hyz (hargs y (by rw [hyz];simp)) (hargs z (by rw [hyz];simp)) hr hm hc
 · -- append
   rename_i t t' s x hts hxs
   rw [zep] at hxs
   obtain ⟨y,z,hyz⟩:∃ y z,args.toList=[y,z]:=zj9 (by have:=congrArg List.length hxs;simpa using this)
   have hs:s=val y∧x=val z:=by rw [hyz] at hxs;simp at hxs;exact ⟨hxs.1.symm,hxs.2.symm⟩
   obtain ⟨rfl,rfl⟩:=hs
   have hry:=hargs y (by rw [hyz];simp)
   have hrz:=hargs z (by rw [hyz];simp)
   cases hb:Nat.beq t t' with
   | false=>
    simp only [hb] at hr
    have ho':o.op = .call { callee:=.builtin .append,args:=#[y,z],argTypes:=#[t,t'] }:=by
     rw [ho]
     have e1:args = #[y,z]:=by apply Array.ext';exact hyz
     have e2:tsa = #[t,t']:=by apply Array.ext';exact hts
     rw [e1,e2]
    exact znq hΓ I ho' hry hrz hr hm hc
   | true=>
   simp only [hb] at hr
   have htt:=Nat.eq_of_beq_eq_true hb
   subst htt
   have ho':o.op = .call { callee:=.builtin .append,args:=#[y,z],argTypes:=#[t,t] }:=by
    rw [ho]
    have e1:args = #[y,z]:=by apply Array.ext';exact hyz
    have e2:tsa = #[t,t]:=by apply Array.ext';exact hts
    rw [e1,e2]
   split at hr
   · rename_i id n b id2 n2 j k hvy hvz
     exact zns hΓ I ho' (hvy▸hry) (hvz▸hrz) hr hm hc
   · rename_i id n id2 n2 hvy hvz
     exact znr hΓ I ho' (hvy▸hry) (hvz▸hrz) hr hm hc
   rename_i hnsb hnsb2
   clear hnsb hnsb2
   unfold zmY at hr
   cases hT:tyOf Γ t with
   | none=>simp [hT] at hr
   | some T=>
   simp only [hT] at hr
   cases hd:T.d <;> simp only [hd] at hr <;> (try (cases hr;done))
   rename_i e
   cases hE:tyOf Γ e with
   | none=>simp [hE] at hr
   | some E=>
   simp only [hE] at hr
   cases hro:asRo mg (val z) with
   | none=>simp [hro] at hr
   | some q=>
   obtain ⟨sz2,n2,e2,rd,c⟩:=q
   simp only [hro] at hr
   cases hb2:Nat.beq sz2 E.size with
   | false=>simp [hb2] at hr
   | true=>
   simp only [hb2] at hr
   have hsz:=Nat.eq_of_beq_eq_true hb2
   subst hsz
   cases hpos:E.size with
   | zero=>simp [hpos] at hr
   | succ k=>
   have hpos':0<E.size:=by omega
   simp only [hpos] at hr
   rw [← hpos] at hr
   cases hvy:val y <;> simp only [hvy] at hr <;> (try (cases hr;done))
   case nilS=>
    cases hf:fresh mg o with
    | none=>simp [hf] at hr
    | some d=>
    simp only [hf] at hr
    cases hr
    rw [hvy] at hry
    exact zkp hΓ I ho' hT hd hE hpos' hry hrz hro (fun id hid=>hm id (by simp [hid])) ((hm d (by simp)).trans (zcp hf).2) hc
   case buf id n=>
    cases hg:mg id with
    | none=>simp [hg] at hr
    | some bl=>
    cases bl <;> simp only [hg] at hr <;> (try (cases hr;done))
    rename_i ty sz n' e1
    cases hb3:Nat.beq ty e with
    | false=>simp [hb3] at hr
    | true=>
    simp only [hb3] at hr
    have hte:=Nat.eq_of_beq_eq_true hb3
    subst hte
    cases hb4:Nat.beq sz E.size with
    | false=>simp [hb4] at hr
    | true=>
    simp only [hb4] at hr
    cases hr
    rw [hvy] at hry
    exact zkq hΓ I ho' hT hd hE hpos' hry ((hm id (by simp)).trans hg) (Nat.eq_of_beq_eq_true hb4) hrz hro (fun j hj=>hm j (by simp [hj])) hc
 · -- max
   rename_i p xs hxs
   split at hr
   · rename_i m hmx
     cases hr
     exact zlr I ho (by rw [← hxs];exact hrel) (.inl ⟨rfl,hmx⟩)
   · cases hr
 · -- min
   rename_i p xs hxs
   split at hr
   · rename_i m hmx
     cases hr
     exact zlr I ho (by rw [← hxs];exact hrel) (.inr ⟨rfl,hmx⟩)
   · cases hr
 · -- delete
   rename_i t ts m k hts hxs
   rw [zep] at hxs
   obtain ⟨y,z,hyz⟩:∃ y z,args.toList=[y,z]:=zj9 (by have:=congrArg List.length hxs;simpa using this)
   have hs:m=val y∧k=val z:=by rw [hyz] at hxs;simp at hxs;exact ⟨hxs.1.symm,hxs.2.symm⟩
   obtain ⟨rfl,rfl⟩:=hs
   have e1:args = #[y,z]:=by apply Array.ext';exact hyz
   rw [e1] at ho
   exact zov (t2:=t) hΓ I (by rw [← Array.getElem?_toList,hts];rfl) ho (hargs y (by rw [hyz];simp)) (hargs z (by rw [hyz];simp)) hr hm hc rfl
 · cases hr
def zh0:Op→Bool
 | .call ⟨.value _,_,_⟩=>true
 | _=>false
theorem run_move {x:Operand} (ho:o.op = .move x∨o.op = .assign x):(execOp a.eval o).run P w = .ok (.value (a.eval x)) w:=by
 unfold execOp
 rcases ho with ho|ho <;> simp only [ho,Sem.run_pure]
theorem zhp {p q:Option Prop} (H:∀ x,andO p q=some x→x):∀ x,p=some x→x:=by
 intro x hx
 subst hx
 cases q with
 | none=>exact H _ rfl
 | some y=>exact (H _ rfl).1
theorem zgt {p q:Option Prop} (H:∀ x,andO p q=some x→x):∀ x,q=some x→x:=by
 intro x hx
 subst hx
 cases p with
 | none=>exact H _ rfl
 | some y=>exact (H _ rfl).2
theorem zdX {H2:Hp} {ty sz n:Nat} {v:Value} {us:List Value} {e:Nat→List AV} (e2:w.ownsRow 0 ty sz v n us) (hH:∀ b,v.ownBlock=some b→H2 b=w.heap[b]?) (e3:∀ i,i<n→(e i).length=sz) (e5:∀ x,x∈us→x.oneCell'=true)
 (e4:∀ (i j:Nat) (c:AV) (x:Value),i<n→(e i)[j]? = some c→us[i * sz+j]? = some x→Rel H2 ρ0 c x):Rel H2 ρ0 (.ro sz n e) v:=by
 rcases e2.2 with ⟨rfl,h0'⟩|⟨b,cap,cur,rfl,_,q3,q4,q5,q6,q7⟩
 · subst h0'
   exact .ro _ _ _ _ none 0 (fun _=>rfl) ⟨Nat.le_refl _,Nat.zero_le _⟩ (fun i hi=>by omega) (fun i j hi=>by omega) (fun k v hk=>by simp at hk) (fun i j c v hi=>by omega)
 · have key:∀ k,k<n * sz→hcell H2 (some ⟨b,0,none⟩) k=us[k]? := by
    intro k hk
    simp only [hcell,cellOf,Addr.add_lit]
    simp only [hH b rfl,q3]
    rw [← q7]
    simp [hk]
   have hlt:∀ i j,i<n→j<sz→i * sz+j<n * sz:=by
    intro i j hi hj
    calc i * sz+j<i * sz+sz:=by omega
     _=(i+1) * sz:=by rw [Nat.add_mul,Nat.one_mul]
     _≤n * sz:=Nat.mul_le_mul_right _ hi
   refine .ro _ _ _ _ _ _ (fun e=>by cases e) ⟨q4,Nat.le_trans q4 q5⟩ e3 (fun i j hi hj=>?_) (fun k v hk hv=>?_) (fun i j c v hi hj hv=>?_)
   · rw [key _ (hlt i j hi hj)]
     have:=hlt i j hi hj
     rw [← e2.1] at this
     simp [this]
   · rw [key _ hk] at hv
     exact e5 v (List.mem_of_getElem? hv)
   · have hj':j<sz:=by rw [← e3 i hi];exact (List.getElem?_eq_some_iff.1 hj).1
     rw [key _ (hlt i j hi hj')] at hv
     exact e4 i j c v hi hj hv
theorem InvH.frz (I:InvH N C h ρ F M g a w) (hbor:∀ b,¬ C.bor b) {id ty sz n:Nat} {e:Nat→List AV} (hM:M id=some (.buf ty sz n e)) :
 ∃ h' ρ' v,InvH N C h' ρ' F (upd M id (some .dead)) g a w∧ρ id=some (.sl n sz v)∧Rel h' ρ' (.ro sz n e) v:=by
 obtain ⟨v,us,k1,k2,k3,k5,k4⟩:=I.blk id _ hM
 classical
 let h':Hp:=fun b=>if v.ownBlock=some b then w.heap[b]? else h b
 let ρ':Rho:=upd ρ id (some (.sl (n+1) sz (.slice none 0 0)))
 have hdead:ρ' id=some (.sl (n+1) sz (.slice none 0 0)):=zah _ _ _
 have hoth:∀ j,j≠id→ρ' j=ρ j:=fun j hj=>zae _ _ hj
 have hin:∀ b,v.ownBlock=some b→h' b=w.heap[b]? := fun b hb=>if_pos hb
 have hle:∀ b o,h b=some o→h' b=some o:=by
  intro b o hb
  show (if v.ownBlock=some b then w.heap[b]? else h b)=some o
  split
  · exact I.hp b o hb
  · exact hb
 have hge:∀ b,v.ownBlock=some b→C.w0.heap.size≤b:=fun b hb=>(I.own id _ b k1 hb).2.2.resolve_right (hbor b)
 have hnew:∀ b o,h' b=some o→(v.ownBlock=some b∧w.heap[b]? = some o)∨h b=some o:=by
  intro b o hb
  have:(if v.ownBlock=some b then w.heap[b]? else h b)=some o:=hb
  split at this
  · exact .inl ⟨by assumption,this⟩
  · exact .inr this
 have hrl:∀ j l,ρ j=some l→∃ l',ρ' j=some l'∧l.le l':=by
  intro j l hj
  by_cases e1:j=id
  · subst e1
    rw [k1] at hj;cases hj
    exact ⟨_,hdead,.inr (.inl ⟨_,_,_,_,_,rfl,rfl,Nat.lt_succ_self _⟩)⟩
  · exact ⟨l,by rw [hoth j e1];exact hj,.inl rfl⟩
 have howns:∀ b,¬ (LI.sl (n+1) sz (.slice none 0 0)).owns b:=fun b hb=>by simp [LI.owns,Value.ownBlock] at hb
 refine ⟨h',ρ',v,{ I with slot:=fun t=>(I.slot t).mono (Le.of hle) hrl,sav:=⟨I.sav.1,fun i c x h1 h2=>(I.sav.2 i c x h1 h2).mono (Le.of hle) hrl⟩,hp:=fun b o hb=>?_,blk:=fun i x hx=>?_,dom:=fun i hi=>?_,own:=fun i li b q1 q2=>?_,inj:=fun i i' li li' b q1 q1' q2 q2'=>?_,ext:=fun b o hb=>hle b o (I.ext b o hb),old:=fun b o hb hlt=>?_,gst:=?_,dfr:=?_ },k1,(zdX k2 (fun b hb=>hin b hb) k3 k5 (fun i j c x a1 a2 a3=>(k4 i j c x a1 a2 a3).heap (Le.of hle))).closed⟩
 · rcases hnew b o hb with q|q
   · exact q.2
   · exact I.hp b o q
 · by_cases e1:i=id
   · subst e1
     rw [zah] at hx;cases hx
     exact ⟨_,_,hdead⟩
   · rw [zae _ _ e1] at hx
     exact (I.blk i x hx).keep (Le.of hle) (hoth i e1) hrl (fun _ _ _ _=>rfl)
 · by_cases e1:i=id
   · subst e1;rw [zah] at hi;cases hi
   · rw [zae _ _ e1] at hi;rw [hoth i e1];exact I.dom i hi
 · by_cases e1:i=id
   · subst e1;rw [hdead] at q1;cases q1;exact absurd q2 (howns b)
   · rw [hoth i e1] at q1
     obtain ⟨q3,q4,q5⟩:=I.own i li b q1 q2
     refine ⟨?_,q4,q5⟩
     show (if v.ownBlock=some b then w.heap[b]? else h b)=none
     rw [if_neg (fun q:v.ownBlock=some b=>e1 (I.inj i id li _ b q1 k1 q2 q))];exact q3
 · by_cases e1:i=id
   · subst e1;rw [hdead] at q1;cases q1;exact absurd q2 (howns b)
   · by_cases e2:i'=id
     · subst e2;rw [hdead] at q1';cases q1';exact absurd q2' (howns b)
     · rw [hoth i e1] at q1;rw [hoth i' e2] at q1'
       exact I.inj i i' li li' b q1 q1' q2 q2'
 · rcases hnew b o hb with q|q
   · exact absurd hlt (Nat.not_lt.2 (hge b q.1))
   · exact I.old b o q hlt
 · obtain ⟨X,x1,x2,x3⟩:=I.gst
   refine ⟨X,fun b ⟨i,li,q1,q2⟩=>?_,fun b o hb=>?_,x3⟩
   · by_cases e1:i=id
     · subst e1;rw [hdead] at q1;cases q1;exact absurd q2 (howns b)
     · rw [hoth i e1] at q1;exact x1 b ⟨i,li,q1,q2⟩
   · rcases hnew b o hb with q|q
     · exact .inr (x1 b ⟨id,_,k1,q.1⟩)
     · exact x2 b o q
 · obtain ⟨Ds,hd1,hd2,hd3⟩:=I.dfr
   exact ⟨Ds,hd1,hd2,fun D hD=>⟨hle _ _ (hd3 D hD).1,(hd3 D hD).2⟩⟩
def FzOk (own:List Nat) (C:Ctx):Prop:=noFz own=true∨∀ b,¬ C.bor b
theorem zk2 {d:Nat}:∀ {own:List Nat},noFz own=true→zbc own (16777216+d % 16777216)=false
 | [],_=>rfl
 | k::r,h=>by
  unfold noFz at h
  split at h
  · cases h
  · rename_i hb
    have hlt:¬ (16777216≤k∧k<33554432):=fun hle=>by
     have h1:Nat.ble 16777216 k=true:=Nat.ble_eq_true_of_le hle.1
     have h2:Nat.blt k 33554432=true:=Nat.ble_eq_true_of_le hle.2
     rw [h1,h2] at hb;cases hb
    unfold zbc
    cases hq:Nat.beq k (16777216+d % 16777216) with
    | true=>have:=Nat.eq_of_beq_eq_true hq;have:=Nat.mod_lt d (show 16777216 > 0 by omega);omega
    | false=>exact zk2 h
theorem frz_rd {r0:Option R} {r:R} (hf:frz own o r0=some r):∃ r1,r0=some r1∧r1.rd=r.rd∧((∀ q,r.cs=some q→q)→∀ q,r1.cs=some q→q):=by
 cases r0 with
 | none=>simp [frz] at hf
 | some r1=>
  refine ⟨r1,rfl,?_⟩
  unfold frz at hf
  simp only [] at hf
  split at hf
  · split at hf
    · cases hf;exact ⟨rfl,fun h=>h⟩
    · split at hf
      · split at hf
        · cases hf;exact ⟨rfl,fun h=>zgt h⟩
        · cases hf
      · cases hf
  · cases hf;exact ⟨rfl,fun h=>h⟩
theorem ev_frz {r1 r:R} (hf:frz own o (some r1)=some r) (hz:FzOk own C) (hc:∀ q,r.cs=some q→q) (G:Good P N C h ρ F M g a o w r1):Good P N C h ρ F M g a o w r:=by
 unfold frz at hf
 simp only [] at hf
 split at hf
 · rename_i d hd
   split at hf
   · cases hf;exact G
   · rename_i hin
     have hbor:∀ b,¬ C.bor b:=by
      rcases hz with hz|hz
      · rw [zk2 hz] at hin;cases hin
      · exact hz
     split at hf
     · rename_i id n id' ty sz n' e hv hwr hrq
       split at hf
       · rename_i hb
         have:=Nat.eq_of_beq_eq_true hb
         subst this
         cases hf
         have hn:n=n':=by
          exact zhp hc _ rfl
         subst hn
         obtain ⟨x,w',h1,ρ1,g1,g2,g3⟩:=G
         rw [hwr,zmn] at g2
         rw [hv] at g3
         obtain ⟨h2,ρ2,v,f1,f2,f3⟩:=InvH.frz g2 hbor (zah _ _ _)
         have hxv:x=v:=by
          cases g3 with
          | buf _ _ _ n2 sz2 _ v' hb2 hle h3 he=>rw [f2] at hb2;cases hb2;exact he rfl
         subst hxv
         refine ⟨x,w',h2,ρ2,g1,?_,f3⟩
         rw [zmn]
         have:upd (upd M id' (some (Blk.buf ty sz n e))) id' (some .dead)=upd M id' (some .dead):=by
          funext j
          by_cases e1:j=id'
          · subst e1;rw [zah,zah]
          · rw [zae _ _ e1,zae _ _ e1,zae _ _ e1]
         rw [← this];exact f1
       · cases hf
     · cases hf
 · cases hf;exact G
theorem zgR:∀ {cs:List AV} {l:List Int},ziX cs=some l→l.length=cs.length∧∀ i,i<l.length→cs[i]? = some (.int .i64 (l.getD i 0))
 | [],l,h=>by simp only [ziX] at h;cases h;exact ⟨rfl,fun i hi=>by simp at hi⟩
 | c::cs,l,h=>by
  cases c with
  | int k n=>
   cases k <;> simp only [ziX] at h <;> (try (cases h;done))
   split at h
   · rename_i l' hl'
     cases h
     obtain ⟨h1,h2⟩:=zgR hl'
     refine ⟨by simp [h1],fun i hi=>?_⟩
     cases i with
     | zero=>simp
     | succ i=>have:=h2 i (by simpa using hi);simpa using this
   · cases h
  | _=>simp [ziX] at h
theorem zkB:∀ {n:Nat} {cs:List AV},n≤cs.length→zdv n cs=some (cs.drop n)
 | 0,cs,_=>by simp [zdv]
 | n+1,[],h=>by simp at h
 | n+1,x::cs,h=>by simp only [zdv];rw [zkB (by simpa using h)];simp
theorem ziL {T:TyD} (hT:T.d = .int .i64) {cs:List AV} {off:Nat} {c:AV} (h:cs[off]? = some c):zdn T (cs.drop off)=some c:=by
 obtain ⟨hlt,hc⟩:=List.getElem?_eq_some_iff.1 h
 unfold zdn
 rw [hT,List.drop_eq_getElem_cons hlt,hc]
 rfl
theorem zpv (hΓ:zbb P Γ) (I:InvH N C h ρ F M g a w) {t:TypeId} {x:Operand} (ho:o.op = .load t x) {T:TyD} (hT:tyOf Γ t=some T) {p:AV} (hp:Rel h ρ p (a.eval x)) {r:R}
 (hr:zmd mg T p=some r) (hm:∀ id,id∈r.rd→M id=mg id) (hc:∀ q,r.cs=some q→q):Good P N C h ρ F M g a o w r:=by
 unfold zmd at hr
 split at hr
 · rename_i hd
   split at hr
   · rename_i id off
     split at hr
     · rename_i cs hg
       split at hr
       · rename_i l hl
         cases hr
         obtain ⟨h1,h2⟩:=zgR hl
         have hlt:off<l.length:=hc _ rfl
         have ht:target mg (.lp id off)=some (cs.drop off,[id],none):=by
          simp only [target,hg];rw [zkB (by omega)]
         exact zox (c:=none) hΓ I ho hT hp ht hm nofun (ziL hd (h2 off hlt))
       · cases hr
     · cases hr
   · cases hr
 · cases hr
theorem zoy (hΓ:zbb P Γ) (I:InvH N C h ρ F M g a w) {t:TypeId} {x i:Operand} (ho:o.op = .index t x i) {T:TyD} (hT:tyOf Γ t=some T) {n:Nat} {e:TypeId} (hd:T.d = .array n e) {E:TyD} (hE:tyOf Γ e=some E)
 {p q:AV} (hp:Rel h ρ p (a.eval x)) (hq:Rel h ρ q (a.eval i)) {r:R} (hr:zkz E n p q=some r) (hc:∀ q,r.cs=some q→q):Good P N C h ρ F M g a o w r:=by
 unfold zkz at hr
 split at hr
 · rename_i cs q' hEd
   split at hr
   rotate_left
   · cases hr
   rename_i hbs
   split at hr
   · rename_i l hl
     cases hr
     obtain ⟨h1,h2⟩:=zgR hl
     obtain ⟨c1,c2,c3⟩:=hc _ rfl
     have hsz:E.size=1:=Nat.eq_of_beq_eq_true hbs
     have hdr:zdv (q'.toNat * E.size) cs=some (cs.drop (q'.toNat * E.size)):=zkB (by rw [hsz];omega)
     have hof:zdn E (cs.drop (q'.toNat * E.size))=some (.int .i64 (l.getD q'.toNat 0)):=by rw [hsz,Nat.mul_one];exact ziL hEd (h2 _ c3)
     exact zmX hΓ I ho hT hd hE hp hq hdr hof ⟨c1,c2⟩
   · cases hr
 · cases hr
theorem zpu (hΓ:zbb P Γ) (I:InvH N C h ρ F M g a w) {t:TypeId} {x:Operand} (ho:o.op = .range t x) {m:AV} (hp:Rel h ρ m (a.eval x)) {r:R} (hr:zmc Γ mg o t m=some r) (hm:∀ id,id∈r.rd→M id=mg id):Good P N C h ρ F M g a o w r:=by
 unfold zmc at hr
 split at hr
 · rename_i T hT
   split at hr
   · rename_i kt et hd
     split at hr
     · rename_i KT hK
       split at hr
       · rename_i hKd
         split at hr
         · rename_i z dom e n
           split at hr
           · rename_i d hf
             cases hr
             generalize he:a.eval x=u at hp
             cases hp with
             | romN _ _ _ _ hdom hz0=>
              have hdn:=(hm d (by simp)).trans (zcp hf).2
              have I':=I.zek hdn (.mapIter none 0 #[] 0) (.blk w.heap.size) (.iter e none (fun l=>l.Nodup∧l.length=0∧∀ k,dom k=true↔k∈l)) (fun b hb=>(Option.some.inj hb).symm)
               ⟨w.heap.size,none,0,0,[],#[],[],zah _ _ _,heap_alloc_new w _,⟨fun _ h=>(by cases h),fun _=>rfl⟩,by simp,by simp,Nat.le_refl _,rfl,⟨List.nodup_nil,rfl,fun k=>by simp [hdom k]⟩,by simp,fun k hk=>by cases hk⟩
              refine ⟨.pointer (some ⟨w.heap.size,0,none⟩),_,_,_,.inl ?_,I',.lp _ _ _ _ (zah _ _ _)⟩
              have hund:=(hΓ t T hT).zgF hd
              have hrun:=run_range_nilMap (P:=P) w t kt et hund
              unfold execOp
              simp only [ho,he,hrun,Sem.run_bind,Result.andThen_ok,Sem.run_pure]
             | rom _ _ _ _ _ rb es clock ks hR hks hlen hel hk hborn hbd hdom hz hcc=>
             have hdn:=(hm d (by simp)).trans (zcp hf).2
             have hkeys:es.map (·.key)=ks.map (fun k=>Value.int .i64 k):=by
              refine List.ext_getElem? (fun i=>?_)
              rw [List.getElem?_map,List.getElem?_map]
              cases hi:ks[i]? with
              | none=>
               have:ks.length≤i:=List.getElem?_eq_none_iff.1 hi
               rw [List.getElem?_eq_none (by omega)];rfl
              | some k=>
               have hlt:i<ks.length:=(List.getElem?_eq_some_iff.1 hi).1
               have h2:es[i]? = some es[i]:=List.getElem?_eq_getElem (by omega)
               rw [h2]
               have:=hk i k _ hi h2
               simp [this]
             have hleft:leftOf es.toArray #[]=es.toArray:=by
              unfold leftOf
              exact Array.filter_eq_self.2 (fun x _=>by simp)
             have I':=I.zek hdn (.mapIter (some rb) clock #[] clock) (.blk w.heap.size) (.iter e none (fun l=>l.Nodup∧l.length=n∧∀ k,dom k=true↔k∈l)) (fun b hb=>(Option.some.inj hb).symm)
              ⟨w.heap.size,some rb,clock,clock,es,#[],ks,zah _ _ _,heap_alloc_new w _,⟨fun bm hb=>by cases hb;exact hR,fun hb=>by cases hb⟩,hborn,hbd,Nat.le_refl _,by rw [hleft];exact hkeys,⟨hks,hlen,hdom⟩,fun x hx=>by
               obtain ⟨i,hi,rfl⟩:=List.getElem_of_mem hx
               have hik:i<ks.length:=by omega
               exact ⟨ks[i],hk i _ _ (List.getElem?_eq_getElem hik) (List.getElem?_eq_getElem hi),hcc i _ _ (List.getElem?_eq_getElem hik) (List.getElem?_eq_getElem hi)⟩,fun k hk=>by cases hk⟩
             refine ⟨.pointer (some ⟨w.heap.size,0,none⟩),_,_,_,.inl ?_,I',.lp _ _ _ _ (zah _ _ _)⟩
             have hund:=(hΓ t T hT).zgF hd
             have hrun:=run_range_map (P:=P) w t kt et rb es.toArray clock hund (I.hp _ _ hR)
             unfold execOp
             simp only [ho,he,hrun,Sem.run_bind,Result.andThen_ok,Sem.run_pure]
           · cases hr
         · cases hr
       · cases hr
     · cases hr
   · cases hr
 · cases hr
theorem zpx (I:InvH N C h ρ F M g a w) {x:Operand} (ho:o.op = .entry x) {m:AV} (hp:Rel h ρ m (a.eval x)) {r:R} (hr:zme mg m=some r) (hm:∀ id,id∈r.rd→M id=mg id):Good P N C h ρ F M g a o w r:=by
 unfold zme at hr
 split at hr
 · rename_i id
   split at hr
   · rename_i e k Pl hg
     cases hr
     obtain ⟨b,bmo,clock,c0,es,seen,left,q1,q2,q3,q4,q5,q6,q7,q8,q9,q10⟩:=I.blk id _ ((hm id (by simp)).trans hg)
     obtain ⟨rfl,y,s,z1,z2,rfl⟩:=q10 k rfl
     cases bmo with
     | none=>rw [q3.2 rfl] at z1;cases z1
     | some bm=>
     obtain ⟨k',z3,z4⟩:=q9 y z1
     rw [z2] at z3;cases z3
     generalize he:a.eval x=u at hp
     cases hp with
     | lp _ _ _ b' hb=>
     rw [q1] at hb;cases hb
     have hrun:=run_entry_at (P:=P) w b bm c0 s es.toArray c0 y q2 (I.hp _ _ (q3.1 bm rfl)) (by simpa using z1) (by simpa using q5)
     refine Good.same I (x:=.tuple #[y.key,y.val]) (.inl ?_) rfl ?_
     · unfold execOp
       simp only [ho,he,hrun,Sem.run_bind,Result.andThen_ok,Sem.run_pure]
     · rw [z2]
       refine .tup _ _ [_,_] rfl (fun i c v h1 h2=>?_)
       match i,h1,h2 with
       | 0,h1,h2=>cases h1;cases h2;exact .int _ _ _
       | 1,h1,h2=>cases h1;cases h2;exact z4.closed
       | i+2,h1,h2=>simp at h1
   · cases hr
 · cases hr
theorem zlq (hΓ:zbb P Γ) (hdep:8≤P.depth) (I:InvH N C h ρ F M g a w) {val:Operand→AV} (hv:∀ y,y∈o.op.operands→Rel h ρ (val y) (a.eval y)) {rv:Option RV} {r:R}
 (hr:evalOp Γ own val mg o rv=some r) (hm:∀ id,id∈r.rd→M id=mg id) (hc:∀ q,r.cs=some q→q) (hcall:zh0 o.op=false) (hz:FzOk own C):Good P N C h ρ F M g a o w r:=by
 unfold evalOp at hr
 cases ho:o.op <;> simp only [ho] at hr <;> (try (cases hr;done))
 case move x=>cases hr;exact Good.same I (.inl (run_move (.inl ho))) rfl (hv x (by rw [ho];simp [Op.operands]))
 case assign x=>cases hr;exact Good.same I (.inl (run_move (.inr ho))) rfl (hv x (by rw [ho];simp [Op.operands]))
 case pick c x y=>
  have hcr:=hv c (by rw [ho];simp [Op.operands])
  have hxr:=hv x (by rw [ho];simp [Op.operands])
  have hyr:=hv y (by rw [ho];simp [Op.operands])
  unfold zpO at hr
  split at hr
  · rename_i p hp
    rw [hp] at hcr
    split at hr
    · rename_i u v hu hv'
      cases hr
      rw [hu] at hxr;rw [hv'] at hyr
      refine Good.same I (x:=.bool (bif p then u else v)) (.inl ?_) rfl (.bool _ _)
      generalize hec:a.eval c=zc at hcr;generalize hex:a.eval x=zx at hxr;generalize hey:a.eval y=zy at hyr
      cases hcr;cases hxr;cases hyr
      unfold execOp
      simp only [ho,hec,hex,hey]
      cases p <;> rfl
    · rename_i u v hu hv'
      cases hr
      rw [hu] at hxr;rw [hv'] at hyr
      refine Good.same I (x:=.int .i64 (bif p then u else v)) (.inl ?_) rfl (.int _ _ _)
      generalize hec:a.eval c=zc at hcr;generalize hex:a.eval x=zx at hxr;generalize hey:a.eval y=zy at hyr
      cases hcr;cases hxr;cases hyr
      unfold execOp
      simp only [ho,hec,hex,hey]
      cases p <;> rfl
    · cases hr
  · cases hr
 case alloc t=>
  cases hT:tyOf Γ t with
  | none=>simp [hT] at hr
  | some T=>
  simp only [hT] at hr
  cases hf:fresh mg o with
  | none=>simp [hf] at hr
  | some d=>
  simp only [hf] at hr
  cases hr
  exact zpz hΓ I ho hT ((hm d (by simp)).trans (zcp hf).2)
 case box t x=>
  cases hcs:zeX (val x) with
  | none=>simp [hcs] at hr
  | some cs=>
  simp only [hcs] at hr
  cases hf:fresh mg o with
  | none=>simp [hf] at hr
  | some d=>
  simp only [hf] at hr
  cases hr
  exact ev_box I ho (hv x (by rw [ho];simp [Op.operands])) hcs ((hm d (by simp)).trans (zcp hf).2)
 case build t ps=>
  cases hT:tyOf Γ t with
  | none=>simp [hT] at hr
  | some T=>
  simp only [hT] at hr
  cases hd:T.d <;> simp only [hd] at hr <;> (try (cases hr;done))
  case struct fs=>
   split at hr
   · rename_i cs hl;cases hr;exact zi9 hΓ I ho hT hd hv hl
   · cases hr
  case array n e=>
   cases hE:tyOf Γ e with
   | none=>simp [hE] at hr
   | some E=>
   simp only [hE] at hr
   split at hr
   · rename_i cs hl;cases hr;exact zjp hΓ I ho hT hd hE hv hl
   · cases hr
 case buildSlice t n ps=>
  cases hT:tyOf Γ t with
  | none=>simp [hT] at hr
  | some T=>
  simp only [hT] at hr
  cases hd:T.d <;> simp only [hd] at hr <;> (try (cases hr;done))
  rename_i e
  cases hE:tyOf Γ e with
  | none=>simp [hE] at hr
  | some E=>
  simp only [hE] at hr
  cases hle:Nat.ble (n * E.size) 16777216 with
  | false=>simp [hle] at hr
  | true=>
  simp only [hle] at hr
  split at hr
  · rename_i cs hl
    split at hr
    · rename_i hvc
      split at hr
      · rename_i hsi
        split at hr
        · rename_i d hd'
          split at hr
          · split at hr
            · rename_i hmd
              split at hr
              · rename_i hnle
                cases hr
                exact zhH hΓ I ho hT hd hE (Nat.le_of_ble_eq_true hle) (Nat.le_of_ble_eq_true hnle) hv hl hvc hsi ((hm d (by simp)).trans hmd)
              · cases hr
            · cases hr
          · split at hr
            · rename_i hnle
              cases hr
              exact zh6 hΓ I ho hT hd hE (Nat.le_of_ble_eq_true hle) hv hl hvc hsi (Nat.le_of_ble_eq_true hnle)
            · cases hr
        · cases hr
      · cases hr
    · exact zou hΓ I ho hT hd hE (Nat.le_of_ble_eq_true hle) hv hl hr hm hc
  · cases hr
 case load t p=>
  cases hT:tyOf Γ t with
  | none=>simp [hT] at hr
  | some T=>
  simp only [hT] at hr
  cases hvr:isVar own o with
  | true=>
   simp only [hvr] at hr
   exact zpv hΓ I ho hT (hv p (by rw [ho];simp [Op.operands])) hr hm hc
  | false=>
  simp only [hvr] at hr
  split at hr
  · rename_i cs rd c ht
    split at hr
    · rename_i v hv'
      cases hr
      exact zox hΓ I ho hT (hv p (by rw [ho];simp [Op.operands])) ht hm hc hv'
    · cases hr
  · cases hr
 case range t x=>exact zpu hΓ I ho (hv x (by rw [ho];simp [Op.operands])) hr hm
 case entry x=>exact zpx I ho (hv x (by rw [ho];simp [Op.operands])) hr hm
 case store t p x=>
  cases hT:tyOf Γ t with
  | none=>simp [hT] at hr
  | some T=>
  simp only [hT] at hr
  cases hcs:zeX (val x) with
  | none=>simp [hcs] at hr
  | some xs=>
  simp only [hcs] at hr
  cases xs with
  | nil=>simp at hr
  | cons x0 xs=>
  simp only [] at hr
  cases hb:Nat.beq (x0::xs).length T.size with
  | false=>simp only [hb] at hr;cases hr
  | true=>
  simp only [hb] at hr
  have hl:=Nat.eq_of_beq_eq_true hb
  have hp:=hv p (by rw [ho];simp [Op.operands])
  have hx:=hv x (by rw [ho];simp [Op.operands])
  cases hvp:val p <;> simp only [hvp] at hr <;> (try (cases hr;done))
  case lp id off=>
   rw [hvp] at hp
   cases hg:mg id with
   | none=>simp [hg] at hr
   | some bl=>
   cases bl <;> simp only [hg] at hr <;> (try (cases hr;done))
   rename_i cs
   split at hr
   · rename_i cs' hlay
     cases hr
     exact zl5 hΓ I ho hT hx hcs hl hp ((hm id (by simp)).trans hg) hlay (by simp)
   · cases hr
  case ep id n i off=>
   rw [hvp] at hp
   cases hg:mg id with
   | none=>simp [hg] at hr
   | some bl=>
   cases bl <;> simp only [hg] at hr <;> (try (cases hr;done))
   rename_i ty sz n' e
   split at hr
   · rename_i hvc
     split at hr
     · rename_i es hlay
       cases hr
       exact zl8 hΓ I ho hT hx hcs hl hvc hp ((hm id (by simp)).trans hg) hlay (by simp) (hc _ rfl)
     · cases hr
   · cases hr
  case gp id n0 i=>
   rw [hvp] at hp
   cases hvx:val x <;> simp only [hvx] at hr <;> (try (cases hr;done))
   rename_i id2 k
   cases hg:mg id with
   | none=>simp [hg] at hr
   | some bl=>
   cases bl <;> simp only [hg] at hr <;> (try (cases hr;done))
   rename_i tS ty sz n m e
   cases hg2:mg id2 with
   | none=>simp [hg2] at hr
   | some bl=>
   cases bl <;> simp only [hg2] at hr <;> (try (cases hr;done))
   rename_i ty2 sz2 k2 e2
   split at hr
   · rename_i hbb
     cases hr
     simp only [Bool.and_eq_true,Bool.not_eq_true'] at hbb
     obtain ⟨⟨hb1,hb2⟩,hb3⟩:=hbb
     have e1:=Nat.eq_of_beq_eq_true hb1
     have e2':=Nat.eq_of_beq_eq_true hb2
     subst e1;subst e2'
     have hsz:1=T.size:=by
      rw [hvx] at hcs
      simp [zeX,single] at hcs
      obtain ⟨_,rfl⟩:=hcs
      simpa using hl
     exact zl6 hΓ I ho hT hsz (hvx▸hx) hp ((hm id (by simp)).trans hg) ((hm id2 (by simp)).trans hg2) (fun e=>by subst e;simp at hb3) (hc _ rfl)
   · cases hr
  case ge id i k j off=>
   rw [hvp] at hp
   cases hg:mg id with
   | none=>simp [hg] at hr
   | some bl=>
   cases bl <;> simp only [hg] at hr <;> (try (cases hr;done))
   rename_i tS ty sz n m e
   split at hr
   · rename_i hvc
     split at hr
     · rename_i es hlay
       cases hr
       exact zl7 hΓ I ho hT hx hcs hl hvc hp ((hm id (by simp)).trans hg) hlay (by simp) (hc _ rfl)
     · cases hr
   · cases hr
 case nilCheck x=>
  have hx:=hv x (by rw [ho];simp [Op.operands])
  have key:∀ ad,a.eval x = .pointer (some ad)→(execOp a.eval o).run P w = .ok (.value (a.eval x)) w:=fun ad he=>by
   unfold execOp
   simp only [ho,he,Sem.run_pure]
  cases hvx:val x <;> simp only [hvx] at hr <;> (try (cases hr;done)) <;> rw [hvx] at hx <;> cases hr
  case rp cs=>
   obtain ⟨ad,he⟩:∃ ad,a.eval x = .pointer (some ad):=by generalize a.eval x=v at hx;cases hx;exact ⟨_,rfl⟩
   exact Good.same I (.inl (key ad he)) rfl hx
  case po b cs=>
   have hb:b=true:=hc _ rfl
   subst hb
   have hx':Rel h ρ (.rp cs) (a.eval x):=by generalize a.eval x=v at hx;cases hx with|po _ _ _ _ ht _=>exact ht rfl
   obtain ⟨ad,he⟩:∃ ad,a.eval x = .pointer (some ad):=by generalize a.eval x=v at hx';cases hx';exact ⟨_,rfl⟩
   exact Good.same (r:=.zcx (.rp cs) (true=true)) I (.inl (key ad he)) rfl hx'
  case lp id off=>
   obtain ⟨ad,he⟩:∃ ad,a.eval x = .pointer (some ad):=by generalize a.eval x=v at hx;cases hx;exact ⟨_,rfl⟩
   exact Good.same I (.inl (key ad he)) rfl hx
  case ep id n i off=>
   obtain ⟨ad,he⟩:∃ ad,a.eval x = .pointer (some ad):=by
    generalize a.eval x=v at hx
    cases hx with
    | ep _ _ _ _ _ _ _ _ _ _ _ h1 _=>exact h1
   exact Good.same I (.inl (key ad he)) rfl hx
  case ge id i k j off=>
   obtain ⟨ad,he⟩:∃ ad,a.eval x = .pointer (some ad):=by
    generalize a.eval x=v at hx
    cases hx with
    | ge _ _ _ _ _ _ _ _ _ h1 _=>exact h1
   exact Good.same I (.inl (key ad he)) rfl hx
 case binOp op t x y yt=>
  cases hwr:isWrap own o with
  | true=>
   simp only [hwr] at hr
   have hx:=hv x (by rw [ho];simp [Op.operands])
   have hy:=hv y (by rw [ho];simp [Op.operands])
   unfold zpN at hr
   split at hr
   · rename_i p q hp hq
     rw [hp] at hx;rw [hq] at hy
     generalize hex:a.eval x=v at hx
     generalize hey:a.eval y=u at hy
     cases hx;cases hy
     have hg:∀ op',(eqGuard op' t x y (.int .i64 p) (.int .i64 q)).run P w = .ok () w:=fun op'=>by rw [eqGuard_at_int];rfl
     split at hr
     · cases hr
       refine Good.same I (x:=.int .i64 (zj1 (p+q))) (.inl ?_) rfl (.int _ _ _)
       unfold execOp
       simp only [ho,hex,hey,Sem.run_bind,hg,Result.andThen_ok,binOp_add,Op.intArith,Sem.run_pure,zgc]
     · cases hr
       refine Good.same I (x:=.int .i64 (zj1 (p - q))) (.inl ?_) rfl (.int _ _ _)
       unfold execOp
       simp only [ho,hex,hey,Sem.run_bind,hg,Result.andThen_ok,binOp_sub,Op.intArith,Sem.run_pure,zgc]
     · cases hr
       refine Good.same I (x:=.int .i64 (zj1 (p * q))) (.inl ?_) rfl (.int _ _ _)
       unfold execOp
       simp only [ho,hex,hey,Sem.run_bind,hg,Result.andThen_ok,binOp_mul,Op.intArith,Sem.run_pure,zgc]
     · cases hr
       refine Good.same I (x:=.int .i64 (andI p q)) (.inl ?_) rfl (.int _ _ _)
       unfold execOp
       simp only [ho,hex,hey,Sem.run_bind,hg,Result.andThen_ok,binOp_and,Op.intBits,Sem.run_pure,zgc]
       rfl
     · cases hr
   · cases hr
  | false=>
  simp only [hwr] at hr
  obtain ⟨h1,z,⟨h2,h3⟩,h4⟩:=zmg hΓ hdep hr hc (hv x (by rw [ho];simp [Op.operands])) (hv y (by rw [ho];simp [Op.operands])) x y w
  refine Good.same I (.inl ?_) h1 h4
  unfold execOp
  simp only [ho,Sem.run_bind,h2,h3,Result.andThen_ok,Sem.run_pure]
 case unOp op t x=>
  have hx:=hv x (by rw [ho];simp [Op.operands])
  generalize hvx:val x=vx at hr hx
  cases op <;> (try simp only [] at hr) <;> (try (cases hr;done))
  case not=>
   cases vx <;> (try simp only [] at hr) <;> (try (cases hr;done))
   rename_i b
   cases hr
   refine Good.same I (x:=.bool (!b)) (.inl ?_) rfl (.bool _ _)
   generalize he:a.eval x=v at hx
   cases hx
   unfold execOp
   simp only [ho,he,Op.unary,Sem.run_bind,Sem.run_pure,Result.andThen_ok]
  case neg=>
   cases vx <;> (try simp only [] at hr) <;> (try (cases hr;done))
   rename_i k n
   cases k <;> (try simp only [] at hr) <;> (try (cases hr;done))
   cases hr
   have hin:inI (0 - n):=hc _ rfl
   refine Good.same I (x:=.int .i64 (0 - n)) (.inl ?_) rfl (.int _ _ _)
   generalize he:a.eval x=v at hx
   cases hx
   unfold execOp
   simp only [ho,he,Op.unary,Op.intArith,Sem.run_bind,Sem.run_pure,Result.andThen_ok,zdR hin]
 case convert s t x=>
  have hx:=hv x (by rw [ho];simp [Op.operands])
  split at hr
  · rename_i S T hS hT
    split at hr
    · rename_i n hs ht hvx
      cases hr
      rw [hvx] at hx
      have hin:inI n:=hc _ rfl
      refine Good.same I (x:=.int .i64 n) (.inl ?_) rfl (.int _ _ _)
      generalize he:a.eval x=v at hx
      cases hx
      have hus:=(hΓ s S hS).zel hs
      have hut:=(hΓ t T hT).zel ht
      unfold execOp
      simp only [ho,he,convert,Conv.intToInt,Sem.run_bind,run_underlying hus,run_underlying hut,Sem.run_pure,Result.andThen_ok,zdR hin]
    · rename_i n hs ht hvx
      cases hr
      rw [hvx] at hx
      have hin:inU n:=hc _ rfl
      refine Good.same I (x:=.int .u64 n) (.inl ?_) rfl (.int _ _ _)
      generalize he:a.eval x=v at hx
      cases hx
      have hus:=(hΓ s S hS).zel hs
      have hut:=(hΓ t T hT).zel ht
      unfold execOp
      simp only [ho,he,convert,Conv.intToInt,Sem.run_bind,run_underlying hus,run_underlying hut,Sem.run_pure,Result.andThen_ok,zii hin]
    · rename_i n hs ht hvx
      cases hr
      rw [hvx] at hx
      have hin:inI n:=hc _ rfl
      refine Good.same I (x:=.int .i64 n) (.inl ?_) rfl (.int _ _ _)
      generalize he:a.eval x=v at hx
      cases hx
      have hus:=(hΓ s S hS).zel hs
      have hut:=(hΓ t T hT).zel ht
      unfold execOp
      simp only [ho,he,convert,Conv.intToInt,Sem.run_bind,run_underlying hus,run_underlying hut,Sem.run_pure,Result.andThen_ok,zdR hin]
    · cases hr
  · cases hr
 case makeInterface t x=>
  cases hT:tyOf Γ t with
  | none=>simp [hT] at hr
  | some T=>
  simp only [hT] at hr
  have hr':r=R.val (.ifc t (val x))∧(∀ ms,P.underlying t≠some (.interface ms)):=by
   obtain ⟨d,h1,h2⟩:=(hΓ t T hT).desc
   cases hd:T.d <;> rw [hd] at hr h2 <;> simp only [DsOk] at h2 <;> (try (cases hr;done)) <;> cases hr <;> refine ⟨rfl,fun ms hms=>?_⟩ <;> rw [h1] at hms <;> cases hms
   all_goals first|(cases h2;done)|(obtain ⟨_,h2,_⟩:=h2;cases h2;done)|(obtain ⟨_,_,_,h2⟩:=h2;cases h2;done)|exact h2.2.2 _ rfl
  obtain ⟨rfl,hni⟩:=hr'
  refine Good.same I (x:=.iface t (a.eval x)) (.inl ?_) rfl (.ifc _ _ _ _ (hv x (by rw [ho];simp [Op.operands])))
  obtain ⟨d,h1,_⟩:=(hΓ t T hT).desc
  unfold execOp
  simp only [ho,Instr.makeInterface,Sem.run_bind,run_underlying h1,Result.andThen_ok]
  cases d <;> first|rfl|exact absurd h1 (hni _)
 case makeFunc f fs cs=>
  cases hr
  have h1:=zdZ fs.toList (fun x hx=>hv x (by rw [ho];simp only [Op.operands];exact Array.mem_append.2 (.inl (by simpa using hx))))
  have h2:=zdZ cs.toList (fun x hx=>hv x (by rw [ho];simp only [Op.operands];exact Array.mem_append.2 (.inr (by simpa using hx))))
  refine Good.same I (x:=.func f (fs.toList.map a.eval).toArray (cs.toList.map a.eval).toArray) (.inl ?_) rfl (.fn _ _ _ _ _ _ h1.1 h2.1 h1.2 h2.2)
  unfold execOp
  have e1:fs.map a.eval=(fs.toList.map a.eval).toArray:=by apply Array.ext';simp
  have e2:cs.map a.eval=(cs.toList.map a.eval).toArray:=by apply Array.ext';simp
  simp only [ho,Instr.makeFunc,e1,e2]
  rfl
 case makeMap t rs=>
  cases rs with
  | some _=>simp at hr
  | none=>
  simp only [] at hr
  cases hT:tyOf Γ t with
  | none=>simp [hT] at hr
  | some T=>
  simp only [hT] at hr
  cases hd:T.d <;> simp only [hd] at hr <;> (try (cases hr;done))
  rename_i k e
  cases hE:tyOf Γ e with
  | none=>simp [hE] at hr
  | some E=>
  simp only [hE] at hr
  cases hf:fresh mg o with
  | none=>simp [hf] at hr
  | some d=>
  simp only [hf] at hr
  split at hr
  · cases hEd:E.d <;> simp only [hEd] at hr <;> (try (cases hr;done))
    rename_i ty
    cases hX:tyOf Γ ty with
    | none=>simp [hX] at hr
    | some X=>
    simp only [hX] at hr
    cases hr
    have hdn:=(hm d (by simp)).trans (zcp hf).2
    have I':=I.zek hdn (.map #[] 0) (.rows (some w.heap.size) (fun _=>none)) (.gmap ty X.size 0 (fun _=>false) (fun _=>0) (fun _ _=>[]) none) (fun b hb=>hb.elim (fun e=>(Option.some.inj e).symm) (fun ⟨_,_,_,e,_⟩=>by cases e))
     ⟨w.heap.size,[],0,[],fun _=>none,zah _ _ _,heap_alloc_new w _,by simp,rfl,rfl,by simp,by simp,by simp,by simp,by simp,by simp,by simp,⟨fun _ _ _ h=>(by cases h),fun _ _ _ _ _ _ _ h=>(by cases h)⟩⟩
    refine ⟨.map (some w.heap.size),_,_,_,.inl ?_,I',.mp _ _ _ _ (zah _ _ _) rfl⟩
    unfold execOp
    simp [ho,Instr.makeMap]
  · cases hr
    have hdn:=(hm d (by simp)).trans (zcp hf).2
    have I':=I.zek hdn (.map #[] 0) (.blk w.heap.size) (.map E.zeroV (fun _=>false) (fun _=>zgD E) 0) (fun b hb=>(Option.some.inj hb).symm)
     ⟨w.heap.size,[],0,[],zah _ _ _,heap_alloc_new w _,by simp,rfl,rfl,by simp,by simp,by simp,by simp,fun k _=>Rel.zgD (hΓ e E hE) h ρ0,by simp⟩
    refine ⟨.map (some w.heap.size),_,_,_,.inl ?_,I',.mp _ _ _ _ (zah _ _ _) rfl⟩
    unfold execOp
    simp [ho,Instr.makeMap]
 case makeSlice t l c=>
  cases hT:tyOf Γ t with
  | none=>simp [hT] at hr
  | some T=>
  simp only [hT] at hr
  cases hd:T.d <;> simp only [hd] at hr <;> (try (cases hr;done))
  rename_i e
  cases hE:tyOf Γ e with
  | none=>simp [hE] at hr
  | some E=>
  simp only [hE] at hr
  split at hr
  · rename_i n m hvl hvc
    cases hf:fresh mg o with
    | none=>simp [hf] at hr
    | some d=>
    simp only [hf] at hr
    split at hr
    · rename_i ty sz hgo
      cases hr
      unfold zlj at hgo
      split at hgo
      rotate_left
      · cases hgo
      split at hgo
      rotate_left
      · cases hgo
      split at hgo
      rotate_left
      · cases hgo
      split at hgo
      rotate_left
      · cases hgo
      rename_i hz
      split at hgo
      rotate_left
      · cases hgo
      rename_i hb1
      cases hgo
      exact zl9 hΓ I ho hT hd hE hz (Nat.eq_of_beq_eq_true hb1) _ _ (hvl▸hv l (by rw [ho];simp [Op.operands])) (hvc▸hv c (by rw [ho];simp [Op.operands])) ((hm d (by simp)).trans (zcp hf).2) (hc _ rfl) (zgg (hc _ rfl).2.2)
    · cases hr
      exact zlt hΓ I ho hT hd hE (hvl▸hv l (by rw [ho];simp [Op.operands])) (hvc▸hv c (by rw [ho];simp [Op.operands])) ((hm d (by simp)).trans (zcp hf).2) (hc _ rfl) (zgg (hc _ rfl).2.2)
  · cases hr
 case slice t x lo hi mx=>
  split at hr
  · rename_i id n hvx
    exact zos hΓ I ho hv hvx hr hm hc
  · cases mx with
    | some m=>exact zot hΓ I ho hv hr hc
    | none=>exact zpt hΓ I ho hv hr hc
 case fieldAddr t p k=>
  cases hT:tyOf Γ t with
  | none=>simp [hT] at hr
  | some T=>
  simp only [hT] at hr
  cases hd:T.d <;> simp only [hd] at hr <;> (try (cases hr;done))
  rename_i fs
  split at hr
  · rename_i off ft hn
    split at hr
    · rename_i FT hFT
      split at hr
      · cases hr
      · rename_i hs
        split at hr
        · rename_i v hv'
          cases hr
          exact zlu hΓ I ho hT hd hn hFT (by omega) (hv p (by rw [ho];simp [Op.operands])) hv'
        · cases hr
    · cases hr
  · cases hr
 case field t x k=>
  cases hT:tyOf Γ t with
  | none=>simp [hT] at hr
  | some T=>
  simp only [hT] at hr
  cases hd:T.d <;> simp only [hd] at hr <;> (try (cases hr;done))
  rename_i fs
  split at hr
  · rename_i off ft hn
    split at hr
    · rename_i FT hFT
      split at hr
      · rename_i cs hvx
        split at hr
        · rename_i q hq
          split at hr
          · rename_i v hv'
            cases hr
            exact zpw hΓ I ho hT hd hn hFT (hvx▸hv x (by rw [ho];simp [Op.operands])) hq hv'
          · cases hr
        · cases hr
      · cases hr
    · cases hr
  · cases hr
 case indexAddr t x i=>
  have hx:=hv x (by rw [ho];simp [Op.operands])
  have hi:=hv i (by rw [ho];simp [Op.operands])
  unfold zja at hr
  cases hT:tyOf Γ t with
  | none=>simp [hT] at hr
  | some T=>
  simp only [hT] at hr
  cases hvi:val i <;> simp only [hvi] at hr <;> (try (cases hr;done))
  rename_i kk q
  cases kk <;> (try simp only [] at hr) <;> (try (cases hr;done))
  rw [hvi] at hi
  cases hd:T.d <;> simp only [hd] at hr <;> (try (cases hr;done))
  case slice e=>
   cases hE:tyOf Γ e with
   | none=>simp [hE] at hr
   | some E=>
   simp only [hE] at hr
   cases hvx:val x <;> simp only [hvx] at hr <;> (try (cases hr;done)) <;> rw [hvx] at hx
   case ro sz n el=>
    split at hr
    · rename_i hb
      split at hr
      · rename_i cs hsp
        cases hr
        have:=zmu hsp
        subst this
        exact zi6 hΓ I ho hT hd hE hx (Nat.eq_of_beq_eq_true hb) hi (hc _ rfl)
      · cases hr
    · cases hr
   case buf id n=>
    cases hg:mg id with
    | none=>simp [hg] at hr
    | some bl=>
    cases bl <;> simp only [hg] at hr <;> (try (cases hr;done))
    rename_i ty sz n' el
    split at hr
    · rename_i hb
      cases hr
      exact zh5 hΓ I ho hT hd hE hx ((hm id (by simp)).trans hg) (Nat.eq_of_beq_eq_true hb) hi (hc _ rfl)
    · cases hr
   case sb id n a0 b0=>
    cases hg:mg id with
    | none=>simp [hg] at hr
    | some bl=>
    cases bl <;> simp only [hg] at hr <;> (try (cases hr;done))
    split at hr
    · rename_i hb
      cases hr
      exact zi5 hΓ I ho hT hd hE hx ((hm id (by simp)).trans hg) (Nat.eq_of_beq_eq_true hb) hi (hc _ rfl)
    · cases hr
   case gb id n=>
    cases hg:mg id with
    | none=>simp [hg] at hr
    | some bl=>
    cases bl <;> simp only [hg] at hr <;> (try (cases hr;done))
    split at hr
    · rename_i hb
      cases hr
      exact zi8 hΓ I ho hT hd hE hx ((hm id (by simp)).trans hg) (Nat.eq_of_beq_eq_true hb) hi (hc _ rfl)
    · cases hr
   case gr' id i0 k=>
    cases hg:mg id with
    | none=>simp [hg] at hr
    | some bl=>
    cases bl <;> simp only [hg] at hr <;> (try (cases hr;done))
    split at hr
    · rename_i hb
      cases hr
      exact zi7 hΓ I ho hT hd hE hx ((hm id (by simp)).trans hg) (Nat.eq_of_beq_eq_true hb) hi (hc _ rfl)
    · cases hr
  case array n e=>
   cases hE:tyOf Γ e with
   | none=>simp [hE] at hr
   | some E=>
   simp only [hE] at hr
   split at hr
   · rename_i p hp
     cases hr
     exact zhi hΓ I ho hT hd hE hx hi hp (hc _ rfl)
   · cases hr
 case index t x i=>
  cases hT:tyOf Γ t with
  | none=>simp [hT] at hr
  | some T=>
  simp only [hT] at hr
  cases hd:T.d <;> simp only [hd] at hr <;> (try (cases hr;done))
  rename_i n e
  cases hE:tyOf Γ e with
  | none=>simp [hE] at hr
  | some E=>
  simp only [hE] at hr
  cases hvr:isVar own o with
  | true=>
   simp only [hvr] at hr
   exact zoy hΓ I ho hT hd hE (hv x (by rw [ho];simp [Op.operands])) (hv i (by rw [ho];simp [Op.operands])) hr hc
  | false=>
  simp only [hvr] at hr
  split at hr
  · rename_i cs q hvx hvi
    split at hr
    · rename_i rr hrr
      split at hr
      · rename_i v hv'
        cases hr
        exact zmX hΓ I ho hT hd hE (hvx▸hv x (by rw [ho];simp [Op.operands])) (hvi▸hv i (by rw [ho];simp [Op.operands])) hrr hv' (hc _ rfl)
      · cases hr
    · cases hr
  · cases hr
 case lookup t m k ok=>exact zow hΓ I ho (hv m (by rw [ho];simp [Op.operands])) (hv k (by rw [ho];simp [Op.operands])) hr hm hc
 case mapUpdate t m k x=>exact zls hΓ I (.inl ho) (hv m (by rw [ho];simp [Op.operands])) (hv k (by rw [ho];simp [Op.operands])) (hv x (by rw [ho];simp [Op.operands])) hr hm hc
 case insert t m k x=>exact zls hΓ I (.inr ho) (hv m (by rw [ho];simp [Op.operands])) (hv k (by rw [ho];simp [Op.operands])) (hv x (by rw [ho];simp [Op.operands])) hr hm hc
 case extract t i=>
  have hx:=hv t (by rw [ho];simp [Op.operands])
  split at hr
  · rename_i vs hvx
    rw [hvx] at hx
    split at hr
    · rename_i v hn
      cases hr
      generalize he:a.eval t=u at hx
      cases hx with
      | tup _ _ us hl hcc=>
       obtain ⟨z,hz,hrel⟩:=RelL.get ⟨hl,hcc⟩ (ze8 hn)
       refine Good.same I (.inl ?_) rfl hrel
       unfold execOp
       simp [ho,he,Instr.extract,hz]
    · cases hr
  · cases hr
 case call c=>
  obtain ⟨callee,args,ts⟩:=c
  cases callee with
  | value f=>rw [ho] at hcall;simp [zh0] at hcall
  | invoke r m=>simp at hr
  | builtin b=>
   have hr':frz own o (zes Γ mg o b ts.toList (zfb val args.toList))=some r:=hr
   obtain ⟨r1,e1,e2,e3⟩:=frz_rd hr'
   rw [e1] at hr'
   exact ev_frz hr' hz hc (znp hΓ I ho hv e1 (fun id hid=>hm id (e2▸hid)) (e3 hc))
end
end Go.Av
end
