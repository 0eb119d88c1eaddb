/- Texts of the framework, or of the plain law, one behind another. -/
import Derived.Test.YtakjeajlmlmkeaaGreatFr2
import Derived.RangeFuncLeaves
import Derived.RangeFuncRecord
import Derived.RangeFuncOwn
import Derived.Conc.MuLone
import Derived.Test.YtakjeajlmlmkeaaGreatFr1
import Derived.Scope
import Derived.Laws.CopyRow
import Derived.Lib.AppendZerosOnto
import Derived.Lib.Overlaps
/- Rules of control. -/
section
set_option linter.all false
namespace Go.Av
structure Env (P:Program) (Γ:Tys):Prop where
 ty:zbC P Γ
 depth:8≤P.depth
 mixed:P.follows .mixedOrders=true
def At (N:Nat) (C:Ctx) (L:List (Nat×AV)) (M:List (Nat×Blk)) (g:Nat) (R:Act→World→Prop):Prop:=∀ h ρ a w,InvH N C h ρ (fr L) (mm M) g a w→R a w
def W (P:Program) (N:Nat) (rr:Option Nat) (C:Ctx) (c:Code) (L:List (Nat×AV)) (M:List (Nat×Blk)) (g:Nat) (Q:Exit→Act→World→Prop):Prop:=At N C L M g (fun a w=>c.wpIn (Fw rr) 1 P Q a w)
def zgS:List (Nat×AV)→Nat→Option AV
 | [],_=>none
 | (d,v)::r,t=>match Nat.beq t d with
  | true=>some v
  | false=>zgS r t
def zhI (ids:List Nat) (L:List (Nat×AV)):List Nat→Option (List (Nat×AV))
 | []=>some []
 | t::ts=>match zgS L t with
  | none=>none
  | some v=>match zas ids v with
   | true=>match zhI ids L ts with
    | some r=>some ((t,v)::r)
    | none=>none
   | false=>none
def zdA (ids:List Nat) (M:List (Nat×Blk)):List Nat→Option (List (Nat×Blk))
 | []=>some []
 | i::is=>match mm M i with
  | none=>none
  | some b=>match zeB ids b with
   | true=>match zdA ids M is with
    | some r=>some ((i,b)::r)
    | none=>none
   | false=>none
theorem zhH:∀ {L:List (Nat×AV)} {t:Nat} {v:AV},zgS L t=some v→fr L t=v
 | (d,u)::r,t,v,h=>by
  unfold zgS at h
  simp only [fr,put]
  split at h
  · rename_i hb;cases h;simp [hb]
  · rename_i hb;simp only [hb];exact zhH h
theorem zgH {ids:List Nat} {L:List (Nat×AV)}:∀ {ts:List Nat} {L':List (Nat×AV)},zhI ids L ts=some L'→∀ t,fr L' t = .any∨(fr L' t=fr L t∧zas ids (fr L' t)=true)
 | [],L',h,t=>by
  simp only [zhI] at h;cases h;exact .inl rfl
 | s::ts,L',h,t=>by
  simp only [zhI] at h
  split at h
  · cases h
  · rename_i v hv
    split at h
    · rename_i ho
      split at h
      · rename_i r hr
        cases h
        simp only [fr,put]
        split
        · rename_i hb
          have:=Nat.eq_of_beq_eq_true hb
          subst this
          exact .inr ⟨(zhH hv).symm,ho⟩
        · exact zgH hr t
      · cases h
    · cases h
theorem zgG {ids:List Nat} {M:List (Nat×Blk)}:∀ {is:List Nat} {M':List (Nat×Blk)},zdA ids M is=some M'→(∀ i b,mm M' i=some b→mm M i=some b∧zeB ids b=true)∧∀ i,i∈is→(mm M' i).isSome=true
 | [],M',h=>by
  simp only [zdA] at h;cases h;exact ⟨fun i b h=>(by cases h),fun i h=>(by cases h)⟩
 | s::is,M',h=>by
  simp only [zdA] at h
  split at h
  · cases h
  · rename_i b hb
    split at h
    · rename_i ho
      split at h
      · rename_i r hr
        cases h
        obtain ⟨h1,h2⟩:=zgG hr
        refine ⟨fun i b' hi=>?_,fun i hi=>?_⟩
        · simp only [mm,upd] at hi
          split at hi
          · rename_i hbe
            have:=Nat.eq_of_beq_eq_true hbe
            subst this
            cases hi;exact ⟨hb,ho⟩
          · exact h1 i b' hi
        · simp only [mm,upd]
          split
          · rfl
          · rename_i hbe
            rcases List.mem_cons.1 hi with rfl|hi
            · simp at hbe
            · exact h2 i hi
      · cases h
    · cases h
section
variable {P:Program} {N:Nat} {Γ:Tys} {C:Ctx} {rr:Option Nat} {L:List (Nat×AV)} {M:List (Nat×Blk)} {g:Nat} {Q:Exit→Act→World→Prop} {R:Act→World→Prop}
theorem InvH.forget {h:Hp} {ρ:Rho} {a:Act} {w:World} (I:InvH N C h ρ (fr L) (mm M) g a w) {ids ts:List Nat} {L':List (Nat×AV)} {M':List (Nat×Blk)} (hL:zhI ids L ts=some L') (hM:zdA ids M ids=some M') (hs:zdh ids C.savA=true) :
 ∃ ρ',(∀ id,id∈ids→ρ' id=ρ id)∧InvH N C h ρ' (fr L') (mm M') g a w:=by
 obtain ⟨hM1,hM2⟩:=zgG hM
 refine ⟨fun id=>if id∈ids then ρ id else none,fun id hid=>by simp [hid],?_⟩
 have hρ:∀ id,id∈ids→(fun id=>if id∈ids then ρ id else none) id=ρ id:=fun id hid=>by simp [hid]
 have hρ':∀ id li,(fun id=>if id∈ids then ρ id else none) id=some li→ρ id=some li:=fun id li h1=>by
  simp only at h1
  split at h1
  · exact h1
  · cases h1
 refine { I with slot:=fun t=>?_,sav:=⟨I.sav.1,fun i c v h1 h2=>(I.sav.2 i c v h1 h2).forget hρ (za1 hs h1)⟩,blk:=fun id x hx=>?_,dom:=fun id hid=>?_,own:=fun id li b h1 h2=>I.own id li b (hρ' id li h1) h2,inj:=fun id id' li li' b h1 h1' h2 h2'=>I.inj id id' li li' b (hρ' _ _ h1) (hρ' _ _ h1') h2 h2',gst:=?_ }
 · rcases zgH hL t with e|⟨e,ho⟩
   · rw [e];exact .any _ _
   · have:=I.slot t
     rw [← e] at this
     exact this.forget hρ ho
 · obtain ⟨h1,ho⟩:=hM1 id x hx
   have hin:id∈ids:=by
    -- only the kept names are in M'
    have key:∀ {is:List Nat} {M'':List (Nat×Blk)},zdA ids M is=some M''→∀ i b,mm M'' i=some b→i∈is:=by
     intro is
     induction is with
     | nil=>intro M'' h i b hb;simp only [zdA] at h;cases h;cases hb
     | cons s is ih=>
      intro M'' h i b hb
      simp only [zdA] at h
      split at h
      · cases h
      · split at h
        · split at h
          · rename_i r hr
            cases h
            simp only [mm,upd] at hb
            split at hb
            · rename_i hbe;have:=Nat.eq_of_beq_eq_true hbe;subst this;exact List.mem_cons_self ..
            · exact List.mem_cons_of_mem _ (ih hr i b hb)
          · cases h
        · cases h
    exact key hM id x hx
   have H:=I.blk id x h1
   cases x with
   | cells cs=>
    obtain ⟨b,vs,ty,q1,q2,q3,q4⟩:=H
    exact ⟨b,vs,ty,(hρ id hin).trans q1,q2,q3,fun i c v hc hv=>(q4 i c v hc hv).forget hρ (za1 (by simpa [zeB] using ho) hc)⟩
   | buf ty sz n e=>
    obtain ⟨v,xs,q1,q2⟩:=H
    exact ⟨v,xs,(hρ id hin).trans q1,q2⟩
   | map z dom e n=>
    obtain ⟨b,es,clock,ks,q1,q2⟩:=H
    exact ⟨b,es,clock,ks,(hρ id hin).trans q1,q2⟩
   | iter e cur Pl=>
    obtain ⟨b,bm,clock,c0,es,seen,left,q1,q2⟩:=H
    exact ⟨b,bm,clock,c0,es,seen,left,(hρ id hin).trans q1,q2⟩
   | bufk ty sz n c e=>
    obtain ⟨v,xs,q1,q2⟩:=H
    exact ⟨v,xs,(hρ id hin).trans q1,q2⟩
   | dead=>
    obtain ⟨n,sz,q1⟩:=H
    exact ⟨n,sz,(hρ id hin).trans q1⟩
   | grid tS ty sz n m e=>
    obtain ⟨v,rows,q1,q2⟩:=H
    exact ⟨v,rows,(hρ id hin).trans q1,q2⟩
   | gmap ty sz n dom m e out=>rw [← zkH out];exact H.zkR (fun a=>a) (hρ id hin) (fun j a v ha hr=>hr.forget hρ (by subst ha;exact ho))
   | rows ty sz hd dom m e out=>rw [← zkH out];exact H.zkD (fun a=>a) (hρ id hin) (fun j a v ha hr=>hr.forget hρ (by subst ha;exact ho))
 · by_cases hin:id∈ids
   · have:=hM2 id hin
     rw [hid] at this;cases this
   · simp [hin]
 · obtain ⟨X,x1,x2,x3⟩:=I.gst
   exact ⟨X,fun b ⟨id,li,h1,h2⟩=>x1 b ⟨id,li,hρ' id li h1,h2⟩,x2,x3⟩
theorem At.keep {ids ts:List Nat} {L':List (Nat×AV)} {M':List (Nat×Blk)} (hL:zhI ids L ts=some L') (hM:zdA ids M ids=some M') (K:At N C L' M' g R) (hs:zdh ids C.savA=true:=by rfl):At N C L M g R:=by
 intro h ρ a w I
 obtain ⟨ρ',_,I'⟩:=I.forget hL hM hs
 exact K h ρ' a w I'
def Sim (x y:AV):Prop:=∀ h ρ v,Rel h ρ x v→Rel h ρ y v
theorem Sim.refl (x:AV):Sim x x:=fun _ _ _ h=>h
theorem Sim.of_eq {x y:AV} (h:x=y):Sim x y:=h▸Sim.refl x
theorem Sim.any (x:AV):Sim x .any:=fun _ _ _ _=>.any _ _
inductive Agree (F:Fr):List (Nat×AV)→Prop
 | nil:Agree F []
 | cons {t:Nat} {v:AV} {r:List (Nat×AV)}:Sim (F t) v→Agree F r→Agree F ((t,v)::r)
theorem Agree.spec {F:Fr} {L':List (Nat×AV)} (H:Agree F L'):∀ t,Sim (F t) (fr L' t):=by
 induction H with
 | nil=>exact fun t=>.any _
 | cons h _ ih=>
  intro t
  simp only [fr,put]
  split
  · rename_i hb;have:=Nat.eq_of_beq_eq_true hb;subst this;exact h
  · exact ih t
theorem BSim.buf {ty sz n n':Nat} {e e':Nat→List AV} (hn:n=n') (he:∀ i,i<n→e i=e' i):BSim (.buf ty sz n e) (.buf ty sz n' e'):=by
 subst hn
 intro h ρ id w H
 obtain ⟨v,xs,q1,q2,q3,q4,q5⟩:=H
 exact ⟨v,xs,q1,q2,fun i hi=>he i hi▸q3 i hi,q4,fun i j c x hi hc hx=>q5 i j c x hi (by rw [he i hi];exact hc) hx⟩
theorem BSim.map {z:Value} {dom dom':Int→Bool} {e e':Int→AV} {n n':Nat} (h1:∀ k,dom k=dom' k) (h2:∀ k,e k=e' k) (h3:n=n'):BSim (.map z dom e n) (.map z dom' e' n'):=by
 obtain rfl:dom=dom':=funext h1
 obtain rfl:e=e':=funext h2
 subst h3
 exact .refl _
theorem Sim.ro {sz n n':Nat} {e e':Nat→List AV} (hn:n=n') (he:∀ i,i<n→e i=e' i):Sim (.ro sz n e) (.ro sz n' e'):=by
 subst hn
 intro h ρ v H
 cases H with
 | ro _ _ _ _ a cap hnil hcap hsz hs h1 hc=>exact .ro _ _ _ _ _ _ hnil hcap (fun i hi=>he i hi▸hsz i hi) hs h1 (fun i j c v hi hc' hv=>hc i j c v hi (by rw [he i hi];exact hc') hv)
theorem Sim.agg {xs ys:List AV} (hl:xs.length=ys.length) (hs:∀ (i:Nat) (x y:AV),xs[i]? = some x→ys[i]? = some y→Sim x y):Sim (.agg xs) (.agg ys):=by
 intro h ρ v H
 cases H with
 | agg _ _ vs hl' hc=>
  refine .agg _ _ _ (by rw [hl',hl]) fun i c v h1 h2=>?_
  have hi:i<xs.length:=by rw [hl];exact (List.getElem?_eq_some_iff.1 h1).1
  exact hs i xs[i] c (List.getElem?_eq_getElem hi) h1 h ρ v (hc i xs[i] v (List.getElem?_eq_getElem hi) h2)
inductive AgreeM:List (Nat×Blk)→List (Nat×Blk)→Prop
 | nil:AgreeM [] []
 | cons {i:Nat} {x y:Blk} {r s:List (Nat×Blk)}:BSim x y→AgreeM r s→AgreeM ((i,x)::r) ((i,y)::s)
theorem AgreeM.refl:∀ M,AgreeM M M
 | []=>.nil
 | (_,_)::r=>.cons (.refl _) (AgreeM.refl r)
theorem AgreeM.spec {M M':List (Nat×Blk)} (H:AgreeM M M'):∀ i,(mm M' i=none↔mm M i=none)∧∀ y,mm M' i=some y→∃ x,mm M i=some x∧BSim x y:=by
 induction H with
 | nil=>exact fun i=>⟨Iff.rfl,fun y h=>by cases h⟩
 | cons h _ ih=>
  rename_i j x y r s hr
  intro i
  simp only [mm,upd]
  split
  · exact ⟨by simp,fun y' e=>by cases e;exact ⟨_,rfl,h⟩⟩
  · exact ih i
theorem At.conv {L':List (Nat×AV)} {M':List (Nat×Blk)} (hL:Agree (fr L) L') (hM:AgreeM M M') (K:At N C L' M' g R):At N C L M g R:=by
 intro h ρ a w I
 refine K h ρ a w { I with slot:=fun t=>hL.spec t h ρ _ (I.slot t),blk:=fun id y hy=>?_,dom:=fun id hid=>I.dom id (((hM.spec id).1).1 hid) }
 obtain ⟨x,h1,h2⟩:=(hM.spec id).2 y hy
 exact h2 h ρ id w (I.blk id x h1)
def zjC (N:Nat):List Oper→Bool
 | []=>true
 | o::r=>match o.dst with
  | none=>zjC N r
  | some d=>match Nat.blt d N with
   | true=>zjC N r
   | false=>false
theorem zcu {N:Nat} {l:List Oper}:zjC N l=true→∀ o,o∈l→∀ d,o.dst=some d→d<N:=by
 induction l with
 | nil=>intro _ o ho;cases ho
 | cons x l ih=>
  intro h o ho d hd
  unfold zjC at h
  cases hx:x.dst with
  | none=>
   simp only [hx] at h
   rcases List.mem_cons.1 ho with rfl|ho
   · rw [hx] at hd;cases hd
   · exact ih h o ho d hd
  | some e=>
   simp only [hx] at h
   cases hb:Nat.blt e N with
   | false=>simp [hb] at h
   | true=>
    simp only [hb] at h
    rcases List.mem_cons.1 ho with rfl|ho
    · rw [hx] at hd;cases hd;exact Nat.le_of_ble_eq_true hb
    · exact ih h o ho d hd
def znD (draw:Bool) (ops:Array Oper) (ft:List (List Nat×List Nat)):Bool:=match draw with
 | true=>zmu ops ft
 | false=>true
theorem W.region (E:Env P Γ) {id:Nat} {ops:Array Oper} {draw:Bool} (own:List Nat) (rvs:List RV) {A:Acc} (hr:runR Γ own ops.toList ops.toList rvs L M=some A) (hd:zjC N ops.toList=true) (ho:znD draw ops A.ft=true) (hcs:AllP A.cs)
 (hrq:RqOk P A.rq) (K:At N C A.L A.M g (Q .normal)) (hz:FzOk own C:=by first|exact .inl rfl|exact .inr (fun _ h=>h)):W P N rr C (.region id ops draw) L M g Q:=by
 intro h ρ a w I
 obtain ⟨rs,T,hft⟩:=zda (N:=N) E.ty E.depth ops.toList rvs L M hr hcs.mem hrq
 cases draw with
 | false=>
  refine wpIn_region ?_
  have:=T.lex (ops:=ops) (rr:=rr) (n:=1) (Q:=Q) hz K 0 h ρ a w I (zcu hd) (fun j=>.inl (by simp))
  rw [List.range_eq_range']
  simpa using this
 | true=>
  refine wpIn_region_any E.mixed ?_
  have hcl:zks ops (fun i=>(Array.replicate ops.size false).getD i false):=by
   intro j o _ hj
   exfalso
   by_cases h:j<ops.size <;> simp [h] at hj
  have hfal:(fun i=>(Array.replicate ops.size false).getD i false)=fun _=>false:=by
   funext i
   by_cases h:i<ops.size <;> simp [h]
  have e1:∀ (l:List (Option Nat×AV)) (G:Fr) (k:Nat),stF G l (fun _=>false) k=G:=by
   intro l
   induction l with
   | nil=>intros;rfl
   | cons x l ih=>intro G k;obtain ⟨e,u⟩:=x;unfold stF;simp [ih]
  have e2:∀ (l:List (List (Nat×Blk))) (G:Mm) (k:Nat),stM G l (fun _=>false) k=G:=by
   intro l
   induction l with
   | nil=>intros;rfl
   | cons x l ih=>intro G k;unfold stM;simp [ih]
  have e3:∀ n,cnt (fun _=>false) n=n:=by
   intro n
   induction n with
   | zero=>rfl
   | succ n ih=>simp [cnt,ih]
  refine zpC T (by rw [← hft];exact ho) (zcu hd) hz K ops.size _ h ρ a _ (by simp) (by rw [hfal,e3]) hcl ?_
  rw [hfal,e1,e2]
  exact I.drew
theorem W.seq {x y:Code} (H:W P N rr C x L M g (Exit.then (fun a w=>y.wpIn (Fw rr) 1 P Q a w) Q)):W P N rr C (.seq x y) L M g Q:=
 fun h ρ a w I=>wpIn_seq (H h ρ a w I)
theorem W.skip (K:At N C L M g (Q .normal)):W P N rr C .skip L M g Q:=fun h ρ a w I=>wpIn_skip (K h ρ a w I)
theorem W.exit {id:Nat} (K:At N C L M g (Q (.exit id))):W P N rr C (.exit id) L M g Q:=fun h ρ a w I=>wpIn_exit (K h ρ a w I)
theorem W.ret (K:At N C L M g (Q .ret)):W P N rr C .ret L M g Q:=fun h ρ a w I=>wpIn_ret (K h ρ a w I)
theorem W.block {id:Nat} {c:Code} (H:W P N rr C c L M g (Exit.inBlock id Q)):W P N rr C (.block id c) L M g Q:=fun h ρ a w I=>wpIn_block (H h ρ a w I)
theorem W.cond {op:Operand} {x y:Code} {b:Bool} (hb:evO (fr L) op = .bool b) (ht:b=true→W P N rr C x L M g Q) (hf:b=false→W P N rr C y L M g Q):W P N rr C (.cond op x y) L M g Q:=by
 intro h ρ a w I
 have hr:Rel h ρ (.bool b) (a.eval op):=by
  rw [← hb]
  cases op with
  | tmp t=>exact I.slot t
  | const v=>exact Rel.ze3 h ρ v
  | func f=>exact .fn _ _ _ _ [] [] rfl rfl (fun i c v hc=>by simp at hc) (fun i c v hc=>by simp at hc)
  | global g=>exact .any _ _
 have he:a.eval op = .bool b:=by generalize a.eval op=z at hr;cases hr;rfl
 exact wpIn_cond_split he (fun h1=>ht h1 h ρ a w I) (fun h1=>hf h1 h ρ a w I)
theorem exists_least {p:Nat→Prop} (h:∃ n,p n):∃ n,p n∧∀ m,p m→n≤m:=by
 obtain ⟨n,hn⟩:=h
 induction n using Nat.strongRecOn with
 | _ n ih=>
  by_cases hx:∃ m,m<n∧p m
  · obtain ⟨m,hm,hp⟩:=hx
    exact ih m hm hp
  · exact ⟨n,hn,fun m hm=>by
     rcases Nat.lt_or_ge m n with h|h
     · exact absurd ⟨m,h,hm⟩ hx
     · exact h⟩
theorem W.loop {S:Type} {c:Code} (J:Nat→S→Prop) (Ls:S→List (Nat×AV)) (Ms:S→List (Nat×Blk)) {n0:Nat} {s0:S} (h0:J n0 s0) (hL:Agree (fr L) (Ls s0)) (hM:AgreeM M (Ms s0))
 (round:∀ n s,J n s→∀ K:Act→World→Prop,(∀ n' s',n'<n→J n' s'→At N C (Ls s') (Ms s') g K)→W P N rr C c (Ls s) (Ms s) g (Exit.then K Q)):W P N rr C (.loop c) L M g Q:=by
 refine At.conv hL hM ?_
 intro h ρ a w I
 let J':Nat→Act→World→Prop:=fun n a w=>∃ s h ρ,J n s∧InvH N C h ρ (fr (Ls s)) (mm (Ms s)) g a w
 have hex:∃ n,J' n a w:=⟨n0,s0,h,ρ,h0,I⟩
 classical
 let μ:Act→World→Nat:=fun a w=>if hh:∃ n,J' n a w then Classical.choose (exists_least hh) else 0
 have hμ:∀ a w,(hh:∃ n,J' n a w)→J' (μ a w) a w∧∀ m,J' m a w→μ a w≤m:=fun a w hh=>by
  have:μ a w=Classical.choose (exists_least hh):=dif_pos hh
  rw [this]
  exact Classical.choose_spec (exists_least hh)
 refine wpIn_loop (fun a w=>∃ n,J' n a w) μ hex ?_
 intro a w ha
 obtain ⟨⟨s,h,ρ,hJ,I⟩,_⟩:=hμ a w ha
 refine round _ s hJ _ (fun n' s' hlt hJ' h' ρ' a' w' I'=>?_) h ρ a w I
 have hex':∃ n,J' n a' w':=⟨n',s',h',ρ',hJ',I'⟩
 exact ⟨hex',Nat.lt_of_le_of_lt ((hμ a' w' hex').2 n' ⟨s',h',ρ',hJ',I'⟩) hlt⟩
end
end Go.Av
end
/- Functions: the return; a contract out of a body. -/
section
set_option linter.all false
namespace Go.Av
def resL (Γ:Tys) (F:Fr) (M:Mm):List ResultVar→Option (List AV)
 | []=>some []
 | .tmp t::r=>match resL Γ F M r with
  | some xs=>some (F t::xs)
  | none=>none
 | .cell a t::r=>match tyOf Γ t with
  | some T=>match target M (F a) with
   | some (cs,_,none)=>match zdy T cs with
    | some v=>match resL Γ F M r with
     | some xs=>some (v::xs)
     | none=>none
    | none=>none
   | _=>none
  | none=>none
def resV:List AV→AV
 | [x]=>x
 | xs=>.tup xs
def Cq (w0:World) (h0:Hp) (SA:List AV) (SV:List Value) (br:Nat→Prop):Ctx:={ w0:=w0,h0:=h0,savA:=SA,savV:=SV,bor:=br,gh:=fun _ _ _=>True,gh_step:=fun _ _ _ _ _ _ _ _ _ _ _ _=>trivial }
abbrev Cp (w0:World) (h0:Hp):Ctx:=Cq w0 h0 [] [] (fun _=>False)
def RetQ (P:Program) (fn:Func) (h0:Hp) (w0:World) (v:AV) (B:List (Nat×Blk)):Exit→Act→World→Prop:=bodyPostM (Fw none) 1 P fn (zir h0 w0 v B)
section
variable {P:Program} {N:Nat} {Γ:Tys} {C:Ctx} {rr:Option Nat} {L:List (Nat×AV)} {M:List (Nat×Blk)} {g:Nat} {Q:Exit→Act→World→Prop} {R:Act→World→Prop}
theorem Lies.other {w w2:World} {h:Hp} {ρ:Rho} {ad:Addr} {cs:List AV} (H:Lies w h ρ ad cs) (hk:∀ (b:Nat) (o:Obj),w.heap[b]? = some o→o.isCells=true→w2.heap[b]? = some o):Lies w2 h ρ ad cs:=by
 intro j c hc
 obtain ⟨x,h1,h2⟩:=H j c hc
 refine ⟨x,?_,h2⟩
 obtain ⟨o,e1,e2⟩:=cells_of_cell h1
 unfold World.cell? at h1 ⊢
 rw [e1] at h1
 rw [hk _ _ e1 e2]
 exact h1
theorem zj2 (hΓ:zbC P Γ) {h:Hp} {ρ:Rho} {F:Fr} {Mm':Mm} {a:Act} {w w2:World} (I:InvH N C h ρ F Mm' g a w) (hk:∀ (b:Nat) (o:Obj),w.heap[b]? = some o→o.isCells=true→w2.heap[b]? = some o):∀ {l:List ResultVar} {xs:List AV},resL Γ F Mm' l=some xs →
 ∃ vs,(l.mapM (fun|.tmp t=>pure (a.tmps.getD t undef)|.cell x t=>do loadVar t (← asAddr (a.tmps.getD x undef)):ResultVar→Sem Value)).run P w2 = .ok vs w2∧RelL h ρ xs vs:=by
 intro l
 induction l with
 | nil=>intro xs hx;simp only [resL] at hx;cases hx;exact ⟨[],by simp,RelL.nil _ _⟩
 | cons r l ih=>
  intro xs hx
  cases r with
  | tmp t=>
   simp only [resL] at hx
   split at hx
   · rename_i ys hy
     cases hx
     obtain ⟨vs,h1,h2⟩:=ih hy
     exact ⟨a.tmps.getD t undef::vs,by simp only [List.mapM_cons,Sem.run_bind,Sem.run_pure,Result.andThen_ok,h1],RelL.cons (I.slot t) h2⟩
   · cases hx
  | cell x t=>
   simp only [resL] at hx
   cases hT:tyOf Γ t with
   | none=>simp [hT] at hx
   | some T=>
   simp only [hT] at hx
   cases ht:target Mm' (F x) with
   | none=>simp [ht] at hx
   | some q=>
   obtain ⟨cs,rd,c⟩:=q
   simp only [ht] at hx
   cases c with
   | some=>simp at hx
   | none=>
   simp only [] at hx
   cases hv:zdy T cs with
   | none=>simp [hv] at hx
   | some v=>
   simp only [hv] at hx
   split at hx
   · rename_i ys hy
     cases hx
     obtain ⟨vs,h1,h2⟩:=ih hy
     obtain ⟨ad,e1,e2⟩:=zis I ht (fun _ _=>rfl) nofun (I.slot x)
     obtain ⟨z,e3,e4⟩:=zht (P:=P) (Lies.other e2 hk) (hΓ t T hT) hv
     have ha:(asAddr (a.tmps.getD x undef)).run P w2 = .ok ad w2:=by rw [e1];rfl
     refine ⟨z::vs,?_,RelL.cons e4 h2⟩
     simp only [List.mapM_cons,Sem.run_bind,ha,Sem.run_pure,Result.andThen_ok,e3,h1]
   · cases hx
theorem leaves {fn:Func} {tmps:Array Value} {R:Ending→World→Prop}:∀ (Ds:List Nat) (w:World),Ds.Nodup→(∀ D,D∈Ds→w.heap[D]? = some (.deferred (some []))) →
 (∀ w2:World,w2.os=w.os→w2.tape=w.tape→w2.output=w.output→w2.heap.size=w.heap.size→(∀ k,k ∉ Ds→w2.heap[k]? = w.heap[k]?)→∃ v,(results fn tmps).run P w2 = .ok v w2∧R (.returned v) w2) →
 LeavesInM (Fw none) 1 P fn tmps R (Ds.map (fun D=>{ target:=.collected D,args:=#[] })) .returning w:=by
 intro Ds
 induction Ds with
 | nil=>
  intro w _ _ H
  obtain ⟨v,h1,h2⟩:=H w rfl rfl rfl rfl (fun _ _=>rfl)
  exact ⟨v,h1,h2⟩
 | cons D Ds ih=>
  intro w hnd hD H
  refine ⟨by simp,.inl ⟨D,_,rfl,run_takeDeferred (hD D (by simp)),?_⟩⟩
  have hne:∀ k,k≠D→(w.putObj D (.deferred none)).heap[k]? = w.heap[k]? := fun k hk=>World.putObj_heap_other hk
  refine ih _ (List.nodup_cons.1 hnd).2 (fun E hE=>?_) (fun w2 e1 e2 e3 e4 e5=>H w2 e1 e2 e3 (by rw [e4];simp [World.putObj]) (fun k hk=>?_))
  · have:E≠D:=by rintro rfl;exact (List.nodup_cons.1 hnd).1 hE
    rw [hne E this]
    exact hD E (by simp [hE])
  · simp only [List.mem_cons,not_or] at hk
    rw [e5 k hk.2,hne k hk.1]
theorem zm5 {h:Hp} {ρ:Rho} {xs:List AV} {vs:List Value} (h2:RelL h ρ xs vs):Rel h ρ (resV xs) (if h:vs.length=1 then vs[0] else .tuple vs.toArray):=by
 unfold resV
 split
 · rename_i x
   have:vs.length=1:=h2.1
   rw [dif_pos this]
   exact h2.2 0 x _ rfl (by simp)
 · rename_i hx
   have:vs.length≠1:=by
    intro e
    have h3:=h2.1
    rw [e] at h3
    obtain ⟨y,hy⟩:=ziV h3.symm
    exact hx y hy
   rw [dif_neg this]
   exact .tup _ _ _ h2.1 h2.2
theorem At.zou (hΓ:zbC P Γ) {w0:World} {h0:Hp} {fn:Func} {v:AV} {B:List (Nat×Blk)} {Rp:Ending→World→Prop} (hRp:∀ e w',zir h0 w0 v B e w'→Rp e w') {xs:List AV} (hr:resL Γ (fr L) (mm M) fn.results.toList=some xs) (hval:∀ b o,h0 b=some o→w0.heap[b]? = some o)
 (H:∀ h ρ a w,InvH N (Cp w0 h0) h ρ (fr L) (mm M) g a w→∀ x,Rel h ρ (resV xs) x→∃ h1 ρ1,Le h h1∧(∀ b o,h b=some o→h1 b=some o)∧(∀ b o,h1 b=some o→w.heap[b]? = some o∧(b<w0.heap.size→h b=some o))∧Rel h1 ρ1 v x ∧
  (∀ w2:World,(∀ (b:Nat) (o:Obj),w.heap[b]? = some o→(∀ d,o ≠ .deferred d)→w2.heap[b]? = some o)→w2.heap.size=w.heap.size→Owns h1 ρ1 B w0 w2)):At N (Cp w0 h0) L M g (bodyPostM (Fw none) 1 P fn Rp .ret):=by
 intro h ρ a w I
 obtain ⟨Ds,hd1,hd2,hd3⟩:=I.dfr
 show LeavesInM (Fw none) 1 P fn a.tmps Rp a.defers .returning w
 rw [hd1]
 refine leaves Ds w hd2 (fun D hD=>I.hp _ _ (hd3 D hD).1) (fun w2 e1 e2 e3 e4 e5=>?_)
 have hnc:∀ (b:Nat) (o:Obj),w.heap[b]? = some o→(∀ d,o ≠ .deferred d)→w2.heap[b]? = some o:=fun b o hb hno=>by
  have:b ∉ Ds:=fun hb'=>by
   have:=I.hp _ _ (hd3 b hb').1
   rw [hb] at this;cases this
   exact hno _ rfl
  rw [e5 b this];exact hb
 obtain ⟨vs,h1,h2⟩:=zj2 (w2:=w2) hΓ I (fun b o hb ho=>hnc b o hb (fun d e=>by subst e;simp [Obj.isCells] at ho)) hr
 have hres:(results fn a.tmps).run P w2 = .ok (if h:vs.length=1 then vs[0] else .tuple vs.toArray) w2:=by
  unfold results
  rw [Array.mapM_eq_mapM_toList]
  rw [map_eq_pure_bind]
  simp only [Sem.run_bind,Sem.run_pure]
  have key:∀ r:Result (List Value),r = .ok vs w2→(r.andThen fun a w'=>.ok a.toArray w').andThen (fun a w'=>Result.ok (if h:a.size=1 then a[0] else Value.tuple a) w') = .ok (if h:vs.length=1 then vs[0] else .tuple vs.toArray) w2:=by
   rintro _ rfl
   simp only [Result.andThen_ok,List.size_toArray,List.getElem_toArray]
  exact key _ h1
 refine ⟨_,hres,hRp _ _ ?_⟩
 obtain ⟨h1',ρ1,k1,k2,k3,k4,k5⟩:=H h ρ a w I _ (zm5 h2)
 -- what is left to be read: all but the marks
 let h':Hp:=fun b=>if b∈Ds then none else h1' b
 have hle:Le h1' h':=by
  intro b o hb _ hno
  show (if b∈Ds then none else h1' b)=some o
  rw [if_neg ?_]
  · exact hb
  · intro hbD
    have h4:=(k3 b o hb).1
    rw [I.hp _ _ (hd3 b hbD).1] at h4;cases h4
    exact hno _ rfl
 have O:=k5 w2 hnc e4
 refine ⟨h',ρ1,⟨e1.trans I.os,e2.trans I.tape,e3.trans I.out,by rw [e4];exact I.sz,fun k hk=>?_⟩,fun b o hb=>?_,fun b o hb=>?_,k4.heap hle,⟨fun id x hx=>?_,O.dom,fun id li b q1 q2=>?_,O.inj⟩⟩
 · have:k ∉ Ds:=fun hkD=>by have:=(hd3 k hkD).2;exact absurd hk (Nat.not_lt.2 this)
   rw [e5 k this]
   exact I.kept k hk (fun h=>h)
 · show (if b∈Ds then none else h1' b)=some o
   have hbh:=I.ext b o hb
   rw [if_neg ?_]
   · exact k2 b o hbh
   · intro hbD
     rw [(hd3 b hbD).1] at hbh;cases hbh
     have:=(hd3 b hbD).2
     exact absurd (zgc (hval b _ hb)) (Nat.not_lt.2 this)
 · have hb':b ∉ Ds∧h1' b=some o:=by
    have:(if b∈Ds then none else h1' b)=some o:=hb
    split at this
    · cases this
    · exact ⟨by assumption,this⟩
   obtain ⟨q1,q2⟩:=k3 b o hb'.2
   rcases Nat.lt_or_ge b w0.heap.size with hlt|hge
   · exact .inl (I.old b o (q2 hlt) hlt)
   · right
     refine ⟨hge,?_⟩
     rw [e5 b hb'.1]
     exact q1
 · exact (O.blk id x hx).keep hle rfl (zcU _) (fun _ _ _ _=>rfl)
 · obtain ⟨q3,q4⟩:=O.own id li b q1 q2
   refine ⟨?_,q4⟩
   show (if b∈Ds then none else h1' b)=none
   split
   · rfl
   · exact q3
theorem At.retR (hΓ:zbC P Γ) {w0:World} {h0:Hp} {fn:Func} {v v':AV} {Rp:Ending→World→Prop} (hRp:∀ e w',zir h0 w0 v [] e w'→Rp e w') {xs:List AV} {rd:List Nat} {c:Option Prop} (hr:resL Γ (fr L) (mm M) fn.results.toList=some xs) (hv:view (mm M) (resV xs)=some (v',rd,c)) (hc:∀ q,c=some q→q) (hs:Sim v' v)
 (hval:∀ b o,h0 b=some o→w0.heap[b]? = some o):At N (Cp w0 h0) L M g (bodyPostM (Fw none) 1 P fn Rp .ret):=by
 refine At.zou hΓ hRp hr hval fun h ρ a w I x hx=>?_
 have hview:=zjW I (Le.of I.znq) hx hv (fun _ _=>rfl) hc (fun id hid li b q1 q2=>znt q1 q2)
 refine ⟨hAll h ρ w,ρ0,Le.of I.znq,I.znq,fun b o hb=>⟨I.zqL b o hb,fun hlt=>?_⟩,hs _ _ _ hview,fun w2 _ _=>⟨fun id x hx=>(by cases hx),fun _ _=>rfl,fun id li b h=>(by cases h),fun id id' li li' b h=>(by cases h)⟩⟩
 unfold hAll at hb
 split at hb
 · rename_i hs'
   obtain ⟨id,li,q1,q2⟩:=hs'
   rcases (I.own id li b q1 q2).2.2 with q3|q3
   · exact absurd hlt (Nat.not_lt.2 q3)
   · exact q3.elim
 · exact hb
theorem At.ret (hΓ:zbC P Γ) {w0:World} {h0:Hp} {fn:Func} {v v':AV} {xs:List AV} {rd:List Nat} {c:Option Prop} (hr:resL Γ (fr L) (mm M) fn.results.toList=some xs) (hv:view (mm M) (resV xs)=some (v',rd,c)) (hc:∀ q,c=some q→q) (hs:Sim v' v)
 (hval:∀ b o,h0 b=some o→w0.heap[b]? = some o):At N (Cp w0 h0) L M g (RetQ P fn h0 w0 v [] .ret):=
 At.retR hΓ (fun _ _ h=>h) hr hv hc hs hval
def argL:Nat→List AV→List (Nat×AV)
 | _,[]=>[]
 | k,x::r=>(k,x)::argL (k+1) r
theorem zhU {h:Hp} {ρ:Rho}:∀ {xs:List AV} {vs:List Value} (k:Nat),RelL h ρ xs vs→∀ t,fr (argL k xs) t = .any∨∃ i v,t=k+i∧vs[i]? = some v∧Rel h ρ (fr (argL k xs) t) v:=by
 intro xs
 induction xs with
 | nil=>intro vs k _ t;exact .inl rfl
 | cons x xs ih=>
  intro vs k H t
  obtain ⟨v,r,rfl,h1,h2⟩:=H.zdP
  simp only [argL,fr,put]
  split
  · rename_i hb
    have:=Nat.eq_of_beq_eq_true hb
    subst this
    exact .inr ⟨0,v,rfl,rfl,h1⟩
  · rcases ih (k+1) h2 t with e|⟨i,u,e1,e2,e3⟩
    · exact .inl e
    · exact .inr ⟨i+1,u,by omega,by simpa using e2,e3⟩
theorem enters_of {f : FuncId} {fn : Func} {c : Code} (hf : P.funcs[f]? = some fn) (hn : (fn.name == "runtime.NumGoroutine") = false) (hb : fn.body = some c) : Enters P f := by
 intro args w
 have hn' : ¬ fn.name = "runtime.NumGoroutine" := by simpa using hn
 unfold callFunc
 simp [Sem.run_bind,hf,hn',hb]
theorem Ctr.zb5 {f : FuncId} {fn : Func} {c : Code} {xs : List AV} {v : AV} {B : List (Nat × Blk)} (hf : P.funcs[f]? = some fn) (hn : (fn.name == "runtime.NumGoroutine") = false) (hb : fn.body = some c) (hN : fn.ntmps = N) (hx : Nat.ble xs.length N = true)
 (H:∀ w0 h0,(∀ b o,h0 b=some o→w0.heap[b]? = some o)→W P N none (Cp w0 h0) c (argL 0 xs) [] 0 (RetQ P fn h0 w0 v B)):Ctr P f xs v B:=by
 refine ⟨enters_of hf hn hb,fun h w vs hR hp=>?_⟩
 refine zc4 (n:=1) (callsIn_of_wp_marks hf hb trivial ?_)
 refine H w h hp h ρ0 _ w ?_
 have hlen:vs.length≤N:=by rw [hR.1];exact Nat.le_of_ble_eq_true hx
 refine ⟨fun t=>?_,⟨rfl,fun i c v h1=>by simp [Cp,Cq] at h1⟩,?_,hp,fun id x hx=>(by cases hx),fun _ _=>rfl,fun id li b h1=>(by cases h1),fun id id' li li' b h1=>(by cases h1),rfl,rfl,rfl,Nat.le_refl _,fun _ _ _=>rfl,fun b o hb=>hb,fun b o hb _=>hb,⟨fun _=>True,fun _ _=>trivial,fun _ _ _=>.inr trivial,trivial⟩,⟨[],rfl,List.nodup_nil,fun D hD=>(by cases hD)⟩⟩
 · rcases zhU (h:=h) (ρ:=ρ0) 0 hR t with e|⟨i,u,e1,e2,e3⟩
   · rw [e];exact .any _ _
   · have e0:t=i:=by omega
     subst e0
     have hi:t<vs.length:=(List.getElem?_eq_some_iff.1 e2).1
     have:(vs.toArray++Array.replicate (fn.ntmps - vs.toArray.size) undef).getD t undef=u:=by
      have e4:vs[t]=u:=by have:=List.getElem?_eq_getElem hi;rw [this] at e2;exact Option.some.inj e2
      simp [Array.getElem?_append,hi,e4]
     rw [this]
     exact e3
 · simp [hN];omega
end
end Go.Av
end
/- The types of a program, by reckoning. -/
section
set_option linter.all false
namespace Go.Av
def mkDs (P:Program) (t:TypeId):TypeDesc→Option Ds
 | .int k=>some (.int k)
 | .bool=>some .bool
 | .pointer e=>some (.ptr e)
 | .slice e=>some (.slice e)
 | .array n e=>some (.array n e)
 | .map k e=>some (.map k e)
 | .func _ _ _=>some .func
 | .interface _=>some .iface
 | .struct f => if (f.toList.all fun x => (x.name != "_") && (P.info? x.type).isSome) && !P.stoodInHeld t then some (.struct (f.toList.map fun x => (x.offset, x.type))) else none
 | _=>some .other
def zoF (d:Ds) (z:Value):Option (List Value):=match d.agg with
 | true=>match z with
  | .agg a=>some a.toList
  | _=>none
 | false=>some [z]
def mkTy (P:Program) (t:TypeId):Option TyD:=match P.info? t with
 | some i=>match i.zero with
  | some z=>match P.underlying t with
   | some d=>match mkDs P t d with
    | some ds=>match zoF ds z with
     | some zs=>if zs.length == i.size && (zs.all fun v=>single (ze3 v)) && (ds.agg || i.size == 1) then some ⟨ds,zs,i.size,i.bytes⟩ else none
     | none=>none
    | none=>none
   | none=>none
  | none=>none
 | none=>none
def zoG (P:Program):List Nat→Option Tys
 | []=>some []
 | t::r=>match mkTy P t with
  | some T=>match zoG P r with
   | some Γ=>some ((t,T)::Γ)
   | none=>none
  | none=>none
theorem znX {P:Program} {t:TypeId} {d:TypeDesc} {ds:Ds} (h:mkDs P t d=some ds):DsOk P t ds d:=by
 unfold mkDs at h
 cases d <;> simp only [] at h <;> (try (split at h)) <;> cases h <;> simp only [DsOk] <;> (try (first|rfl|exact ⟨_,rfl⟩|exact ⟨_,_,_,rfl⟩|(refine ⟨fun f e=>?_,fun n e' e=>?_,fun ms e=>?_⟩ <;> cases e;done)))
 rename_i f hc
 simp only [Bool.and_eq_true,List.all_eq_true,bne_iff_ne,ne_eq,Bool.not_eq_true'] at hc
 exact ⟨f,rfl,rfl,fun x hx=>(hc.1 x hx).1,hc.2,fun x hx=>(hc.1 x hx).2⟩
theorem znW {P:Program} {t:TypeId} {T:TyD} (h:mkTy P t=some T):TyOk P t T:=by
 unfold mkTy at h
 cases hi:P.info? t with
 | none=>simp [hi] at h
 | some i=>
 simp only [hi] at h
 cases hz:i.zero with
 | none=>simp [hz] at h
 | some z=>
 simp only [hz] at h
 cases hu:P.underlying t with
 | none=>simp [hu] at h
 | some d=>
 simp only [hu] at h
 cases hd:mkDs P t d with
 | none=>simp [hd] at h
 | some ds=>
 simp only [hd] at h
 cases hm:zoF ds z with
 | none=>simp [hm] at h
 | some zs=>
 simp only [hm] at h
 split at h
 · rename_i hc
   cases h
   simp only [Bool.and_eq_true,beq_iff_eq,List.all_eq_true,Bool.or_eq_true] at hc
   obtain ⟨⟨h1,h2⟩,h3⟩:=hc
   refine ⟨⟨i,hi,rfl,rfl,?_⟩,h1,h2,fun ha=>?_,d,hu,znX hd⟩
   · rw [hz]
     unfold zoF at hm
     unfold TyD.zeroV
     cases ha:ds.agg with
     | true=>
      simp only [ha] at hm ⊢
      cases z <;> simp only [] at hm <;> cases hm
      simp
     | false=>
      simp only [ha] at hm ⊢
      cases hm;rfl
   · simp only at ha
     rcases h3 with h3|h3
     · rw [ha] at h3;cases h3
     · exact h3
 · cases h
theorem zji {P:Program}:∀ {ts:List Nat} {Γ:Tys},zoG P ts=some Γ→zbC P Γ
 | [],Γ,h=>by simp only [zoG] at h;cases h;exact zbC.nil P
 | t::r,Γ,h=>by
  simp only [zoG] at h
  split at h
  · rename_i T hT
    split at h
    · rename_i G hG
      cases h
      exact zbC.cons (znW hT) (zji hG)
    · cases h
  · cases h
end Go.Av
end
/- Rules for the printed definitions: joins, loops. -/
section
set_option linter.all false
namespace Go.Av
open Go.Sp
def roL {T:Type} [Inhabited T] (sz:Nat) (f:T→List AV) (l:List T):AV:=.ro sz l.length (fun i=>f (l.getD i default))
def bufL {T:Type} [Inhabited T] (ty sz:Nat) (f:T→List AV) (l:List T):Blk:=.buf ty sz l.length (fun i=>f (l.getD i default))
def romL {T:Type} [Inhabited T] (z:Value) (f:T→AV) (m:Mp T):AV:=.rom z (fun k=>(m.get k).isSome) (fun k=>f ((m.get k).getD default)) m.card
def mapL {T:Type} [Inhabited T] (z:Value) (f:T→AV) (m:Mp T):Blk:=.map z (fun k=>(m.get k).isSome) (fun k=>f ((m.get k).getD default)) m.card
section
variable {P:Program} {N:Nat} {Γ:Tys} {C:Ctx} {rr:Option Nat} {L:List (Nat×AV)} {M:List (Nat×Blk)} {g:Nat} {Q:Exit→Act→World→Prop}
theorem W.loopGo {S R:Type} {body:S→(S→Option R)→Option R} {n:Nat} {s0:S} {r:R} {c:Code} (H:loopGo body n s0=some r) (Ls:S→List (Nat×AV)) (Ms:S→List (Nat×Blk)) (hL:Agree (fr L) (Ls s0)) (hM:AgreeM M (Ms s0))
 (round:∀ (κ:S→Option R) (s:S),body s κ=some r→∀ K:Act→World→Prop,(∀ s',κ s'=some r→At N C (Ls s') (Ms s') g K)→W P N rr C c (Ls s) (Ms s) g (Exit.then K Q)):W P N rr C (.loop c) L M g Q:=by
 refine W.loop (S:=S) (fun n s=>Sp.loopGo body n s=some r) Ls Ms H hL hM (fun n s hJ K hK=>?_)
 cases n with
 | zero=>simp [Sp.loopGo] at hJ
 | succ n=>exact round (Sp.loopGo body n) s hJ K (fun s' hs'=>hK n s' (Nat.lt_succ_self n) hs')
theorem W.zaq {S R:Type} {body:Nat→S→(S→R)→R} {exit:S→R} {b:Nat} {s0:S} {r:R} {c:Code} (H:zaq body exit b 0 s0=r) (Ls:Nat→S→List (Nat×AV)) (Ms:Nat→S→List (Nat×Blk)) (hL:Agree (fr L) (Ls 0 s0)) (hM:AgreeM M (Ms 0 s0))
 (round:∀ (κ:S→R) (i:Nat) (s:S),i≤b→(i<b→body i s κ=r)→(b≤i→exit s=r)→∀ K:Act→World→Prop,(i<b→∀ s',κ s'=r→At N C (Ls (i+1) s') (Ms (i+1) s') g K)→W P N rr C c (Ls i s) (Ms i s) g (Exit.then K Q)) :
 W P N rr C (.loop c) L M g Q:=by
 refine W.loop (S:=Nat×S) (n0:=b) (s0:=(0,s0)) (fun n s=>s.1+n=b∧Sp.zaq body exit n s.1 s.2=r) (fun s=>Ls s.1 s.2) (fun s=>Ms s.1 s.2) ⟨Nat.zero_add _,H⟩ hL hM (fun n s hJ K hK=>?_)
 obtain ⟨i,s⟩:=s
 obtain ⟨h1,h2⟩:=hJ
 simp only at h1 h2 hK ⊢
 cases n with
 | zero=>exact round (fun s=>exit s) i s (by omega) (fun hlt=>by omega) (fun _=>h2) K (fun hlt=>by omega)
 | succ n=>exact round (Sp.zaq body exit n (i+1)) i s (by omega) (fun _=>h2) (fun hge=>by omega) K (fun _ s' hs'=>hK n (i+1,s') (Nat.lt_succ_self n) ⟨by simp only;omega,hs'⟩)
theorem At.zbb {M':List (Nat×Blk)} {R:Act→World→Prop} (hM:AgreeM M M') (K:At N C L M' g R):At N C L M g R:=by
 intro h ρ a w I
 refine K h ρ a w { I with blk:=fun id y hy=>?_,dom:=fun id hid=>I.dom id (((hM.spec id).1).1 hid) }
 obtain ⟨x,h1,h2⟩:=(hM.spec id).2 y hy
 exact h2 h ρ id w (I.blk id x h1)
theorem Sim.nil (sz:Nat) (e:Nat→List AV):Sim .nilS (.ro sz 0 e):=by
 intro h ρ v H
 cases H
 exact .ro _ _ _ _ none 0 (fun _=>rfl) ⟨Nat.le_refl _,Nat.zero_le _⟩ (fun i hi=>by omega) (fun i j hi=>by omega) (fun k v hk=>by simp at hk) (fun i j c v hi=>by omega)
theorem Sim.tup {xs ys:List AV} (hl:xs.length=ys.length) (hs:∀ (i:Nat) (x y:AV),xs[i]? = some x→ys[i]? = some y→Sim x y):Sim (.tup xs) (.tup ys):=by
 intro h ρ v H
 cases H with
 | tup _ _ vs hl' hc=>
  refine .tup _ _ _ (by rw [hl',hl]) fun i c v h1 h2=>?_
  have hi:i<xs.length:=by rw [hl];exact (List.getElem?_eq_some_iff.1 h1).1
  exact hs i xs[i] c (List.getElem?_eq_getElem hi) h1 h ρ v (hc i xs[i] v (List.getElem?_eq_getElem hi) h2)
inductive SimL:List AV→List AV→Prop
 | nil:SimL [] []
 | cons {x y:AV} {r s:List AV}:Sim x y→SimL r s→SimL (x::r) (y::s)
theorem SimL.spec {xs ys:List AV} (H:SimL xs ys):xs.length=ys.length∧∀ (i:Nat) (x y:AV),xs[i]? = some x→ys[i]? = some y→Sim x y:=by
 induction H with
 | nil=>exact ⟨rfl,fun i x y h=>by simp at h⟩
 | cons h _ ih=>
  refine ⟨by simp [ih.1],fun i x y h1 h2=>?_⟩
  cases i with
  | zero=>simp at h1 h2;subst h1 h2;exact h
  | succ i=>exact ih.2 i x y (by simpa using h1) (by simpa using h2)
theorem Sim.tupL {xs ys:List AV} (H:SimL xs ys):Sim (.tup xs) (.tup ys):=Sim.tup H.spec.1 H.spec.2
theorem Sim.aggL {xs ys:List AV} (H:SimL xs ys):Sim (.agg xs) (.agg ys):=Sim.agg H.spec.1 H.spec.2
theorem W.len {c:Code} {t sz n:Nat} {e:Nat→List AV} (ht:fr L t = .ro sz n e) (K:n≤maxLen→W P N rr C c L M g Q):W P N rr C c L M g Q:=by
 intro h ρ a w I
 have:=I.slot t
 rw [ht] at this
 generalize a.tmps.getD t undef=v at this
 cases this with
 | ro _ _ _ _ _ _ _ hcap _ _ _ _=>exact K hcap.2 h ρ a w I
theorem BSim.push {T:Type} [Inhabited T] {ty sz:Nat} {f:T→List AV} {l r:List T} {e:Nat→List AV} {n:Nat} (hn:n=r.length) (he:∀ k,k<r.length→e k=f (r.getD k default)) :
 BSim (.buf ty sz (l.length+n) (fun k=>if k<l.length then f (l.getD k default) else e (k - l.length))) (.buf ty sz (l++r).length (fun k=>f ((l++r).getD k default))):=by
 subst hn
 refine BSim.buf (by simp) (fun i hi=>?_)
 by_cases h:i<l.length
 · simp [h,List.getD_eq_getElem?_getD,List.getElem?_append_left h]
 · simp only [h,if_false]
   rw [he _ (by omega)]
   simp [List.getD_eq_getElem?_getD,List.getElem?_append_right (Nat.le_of_not_lt h)]
theorem At.zad {y:Code} (K:W P N rr C y L M g Q):At N C L M g (Exit.then (fun a w=>y.wpIn (Fw rr) 1 P Q a w) Q .normal):=K
theorem At.zaF {K:Act→World→Prop} (H:At N C L M g K):At N C L M g (Exit.then K Q .normal):=H
theorem At.inb {id:Nat} (H:At N C L M g (Q .normal)):At N C L M g (Exit.inBlock id Q .normal):=H
theorem At.rthen {K:Act→World→Prop} (H:At N C L M g (Q .ret)):At N C L M g (Exit.then K Q .ret):=H
theorem At.rinb {id:Nat} (H:At N C L M g (Q .ret)):At N C L M g (Exit.inBlock id Q .ret):=H
theorem At.xthen {K:Act→World→Prop} {i:Nat} (H:At N C L M g (Q (.exit i))):At N C L M g (Exit.then K Q (.exit i)):=H
theorem At.xhere {i:Nat} (H:At N C L M g (Q .normal)):At N C L M g (Exit.inBlock i Q (.exit i)):=by
 have e:Exit.inBlock i Q (.exit i)=Q .normal:=by funext a w;simp [Exit.inBlock]
 rw [e];exact H
theorem Ctr.sim {f:FuncId} {xs ys:List AV} {v:AV} {B:List (Nat×Blk)} (hs:SimL xs ys) (H:Ctr P f ys v B):Ctr P f xs v B:=by
 refine ⟨H.1,fun h w vs hR hp=>H.2 h w vs ?_ hp⟩
 obtain ⟨hl,hs'⟩:=hs.spec
 refine ⟨by rw [hR.1,hl],fun i c v hc hv=>?_⟩
 have hi:i<xs.length:=by rw [hl];exact (List.getElem?_eq_some_iff.1 hc).1
 exact hs' i xs[i] c (List.getElem?_eq_getElem hi) hc h ρ0 v (hR.2 i xs[i] v (List.getElem?_eq_getElem hi) hv)
theorem zhf {T:Type} [Inhabited T] {sz:Nat} {f:T→List AV} (hf:∀ x,(f x).length=sz):∀ (l:List T) (i:Nat),i<l.length→elemAt sz (l.flatMap f) i=f (l.getD i default)
 | x::l,0,_=>by
  unfold elemAt
  simp [hf x]
 | x::l,i+1,h=>by
  have:=zhf hf l i (by simpa using h)
  unfold elemAt at this ⊢
  rw [List.flatMap_cons,Nat.add_mul,Nat.one_mul,Nat.add_comm,← List.drop_drop]
  have e:(f x++l.flatMap f).drop sz=l.flatMap f:=by rw [← hf x];simp
  rw [e,this]
  simp
theorem Sim.lit {T:Type} [Inhabited T] {sz n:Nat} {f:T→List AV} {cs:List AV} (l:List T) (hn:n=l.length) (hc:cs=l.flatMap f) (hf:∀ x,(f x).length=sz):Sim (.ro sz n (elemAt sz cs)) (.ro sz l.length (fun i=>f (l.getD i default))):=by
 subst hn hc
 exact Sim.ro rfl (fun i hi=>zhf hf l i hi)
theorem At.slot {R:Act→World→Prop} {t:Nat} {v:AV} (hs:Sim (fr L t) v) (K:At N C ((t,v)::L) M g R):At N C L M g R:=by
 intro h ρ a w I
 refine K h ρ a w { I with slot:=fun u=>?_ }
 simp only [fr,put]
 split
 · rename_i hb
   have:=Nat.eq_of_beq_eq_true hb
   subst this
   exact hs h ρ _ (I.slot u)
 · exact I.slot u
theorem At.zfh {R:Act→World→Prop} (t id ty sz:Nat) {e:Nat→List AV} (ht:fr L t = .nilS) (hid:mm M id=none) (K:At N C ((t,.buf id 0)::L) ((id,.buf ty sz 0 e)::M) g R):At N C L M g R:=by
 intro h ρ a w I
 have hρ:=I.dom id hid
 have hle:∀ i l,ρ i=some l→∃ l',upd ρ id (some (.sl 0 sz (.slice none 0 0))) i=some l'∧l.le l':=by
  intro i l hi
  have hne:i≠id:=by rintro rfl;rw [hρ] at hi;cases hi
  exact ⟨l,by rw [zae _ _ hne];exact hi,.inl rfl⟩
 have I':InvH N C h (upd ρ id (some (.sl 0 sz (.slice none 0 0)))) (fr L) (mm ((id,.buf ty sz 0 e)::M)) g a w:=by
  refine I.step (S:=fun i=>i=id) rfl rfl rfl (Nat.le_refl _) (fun _ _ _=>rfl) (fun i hi=>zae _ _ hi) hle (fun _ _ h=>h) (fun _ _ h=>.inl h) (fun i hi=>zae _ _ hi) ?_ ?_ ?_ ?_
  · rintro i rfl hM;simp only [mm] at hM;rw [zaf] at hM;cases hM
  · rintro i y rfl hM;simp only [mm] at hM;rw [zaf] at hM;cases hM
    exact ⟨.slice none 0 0,[],zaf _ _ _,⟨by simp,.inl ⟨rfl,rfl⟩⟩,fun j hj=>(by omega),fun x hx=>(by cases hx),fun j k c x hj=>(by omega)⟩
  · rintro i l b rfl h1 h2;rw [zaf] at h1;cases h1;simp [LI.owns,Value.ownBlock] at h2
  · rintro i i' l l' b rfl rfl _ _ _ _;rfl
 refine K h _ a w { I' with slot:=fun u=>?_ }
 simp only [fr,put]
 split
 · rename_i hb
   have:=Nat.eq_of_beq_eq_true hb
   subst this
   have hv:=I.slot u
   rw [ht] at hv
   generalize a.tmps.getD u undef=x at hv
   cases hv
   exact .buf _ _ _ _ _ _ _ (zaf _ _ _) (Nat.le_refl _) rfl (fun _=>rfl)
 · exact I'.slot u
def Seg {T:Type} [Inhabited T] (f:T→List AV) (n:Nat) (e:Nat→List AV) (l:List T):Prop:=n=l.length∧∀ k,k<n→e k=f (l.getD k default)
theorem Seg.refl {T:Type} [Inhabited T] (f:T→List AV) (l:List T):Seg f l.length (fun k=>f (l.getD k default)) l:=⟨rfl,fun _ _=>rfl⟩
theorem Seg.lit {T:Type} [Inhabited T] {f:T→List AV} {sz n:Nat} {cs:List AV} (l:List T) (hn:n=l.length) (hc:cs=l.flatMap f) (hf:∀ x,(f x).length=sz):Seg f n (elemAt sz cs) l:=by
 subst hn hc
 exact ⟨rfl,fun k hk=>zhf hf l k hk⟩
theorem Seg.made {T:Type} [Inhabited T] {f:T→List AV} {n:Nat} (x:T) {e:List AV} (he:e=f x):Seg f n (fun _=>e) (List.replicate n x):=by
 subst he
 exact ⟨by simp,fun k hk=>by simp [List.getD_eq_getElem?_getD,hk]⟩
theorem Seg.push {T:Type} [Inhabited T] {f:T→List AV} {n m:Nat} {e e':Nat→List AV} {l r:List T} (h:Seg f n e l) (h':Seg f m e' r):Seg f (n+m) (fun k=>if k<n then e k else e' (k - n)) (l++r):=by
 obtain ⟨rfl,h1⟩:=h
 obtain ⟨rfl,h2⟩:=h'
 refine ⟨by simp,fun k hk=>?_⟩
 by_cases h:k<l.length
 · simp only [h,if_true]
   rw [h1 k h]
   simp [List.getD_eq_getElem?_getD,List.getElem?_append_left h]
 · simp only [h,if_false]
   rw [h2 _ (by omega)]
   simp [List.getD_eq_getElem?_getD,List.getElem?_append_right (Nat.le_of_not_lt h)]
theorem Seg.set {T:Type} [Inhabited T] {f:T→List AV} {n i:Nat} {e:Nat→List AV} {l:List T} {es:List AV} (h:Seg f n e l) (x:T) (he:es=f x):Seg f n (fun k=>if k=i then es else e k) (l.set i x):=by
 obtain ⟨rfl,h1⟩:=h
 subst he
 refine ⟨by simp,fun k hk=>?_⟩
 by_cases h:k=i
 · subst h;simp [List.getD_eq_getElem?_getD,hk]
 · simp only [h,if_false]
   rw [h1 k hk]
   simp [List.getD_eq_getElem?_getD,List.getElem?_set_ne (Ne.symm h)]
theorem Seg.take {T:Type} [Inhabited T] (f:T→List AV) (l:List T) (a:Nat) (h:a≤l.length):Seg f a (fun k=>f (l.getD k default)) (l.take a):=by
 refine ⟨by simp;omega,fun k hk=>?_⟩
 simp [List.getD_eq_getElem?_getD,List.getElem?_take,hk]
theorem Seg.drop {T:Type} [Inhabited T] (f:T→List AV) (l:List T) (a:Nat):Seg f (l.length - a) (fun k=>f (l.getD (a+k) default)) (l.drop a):=by
 refine ⟨by simp,fun k hk=>?_⟩
 simp [List.getD_eq_getElem?_getD,List.getElem?_drop]
theorem Sim.seg {T:Type} [Inhabited T] {sz n:Nat} {f:T→List AV} {e:Nat→List AV} {l:List T} (h:Seg f n e l):Sim (.ro sz n e) (roL sz f l):=Sim.ro h.1 h.2
theorem BSim.seg {T:Type} [Inhabited T] {ty sz n:Nat} {f:T→List AV} {e:Nat→List AV} {l:List T} (h:Seg f n e l):BSim (.buf ty sz n e) (bufL ty sz f l):=BSim.buf h.1 h.2
end
end Go.Av
end
/- A scope of labels, without jumps to them; maps read as such. -/
section
set_option linter.all false
namespace Go
section
variable {F:Fence} {n:Nat} {P:Program} {b:Frame} {a:Act} {k:List Item} {cs:List Frame} {w:World} {Q:Exit→Act→World→Prop}
end
end Go
namespace Go.Av
section
variable {P:Program} {N:Nat} {Γ:Tys} {C:Ctx} {rr:Option Nat} {L:List (Nat×AV)} {M:List (Nat×Blk)} {g:Nat} {Q:Exit→Act→World→Prop}
theorem W.zjO {S R:Type} {f:(S→R)→R} {k:S→R} {r:R} {x y:Code} (H:Sp.zib f k=r) (Ls:S→List (Nat×AV)) (Ms:S→List (Nat×Blk))
 (rest:∀ s,k s=r→W P N rr C y (Ls s) (Ms s) g Q)
 (first:∀ κ:S→R,f κ=r→(∀ s,κ s=r→At N C (Ls s) (Ms s) g (fun a w=>y.wpIn (Fw rr) 1 P Q a w))→W P N rr C x L M g (Exit.then (fun a w=>y.wpIn (Fw rr) 1 P Q a w) Q)):W P N rr C x L M g (Exit.then (fun a w=>y.wpIn (Fw rr) 1 P Q a w) Q):=
 first k H rest
end
def zj1:List AV→Nat→Nat→Option (List AV)
 | .nilS::r,0,id=>some (.buf id 0::r)
 | x::r,n+1,id=>match zj1 r n id with
  | some r'=>some (x::r')
  | none=>none
 | _,_,_=>none
theorem zmq {id:Nat}:∀ {cs cs':List AV} {j:Nat},zj1 cs j id=some cs'→cs'.length=cs.length∧∀ (i:Nat) (c:AV),cs'[i]? = some c→cs[i]? = some c∨(c = .buf id 0∧cs[i]? = some .nilS):=by
 intro cs
 induction cs with
 | nil=>intro cs' j h;cases j <;> simp [zj1] at h
 | cons x r ih=>
  intro cs' j h
  cases j with
  | zero=>
   cases x <;> simp only [zj1] at h <;> cases h
   refine ⟨rfl,fun i c hc=>?_⟩
   cases i with
   | zero=>simp at hc;subst hc;exact .inr ⟨rfl,rfl⟩
   | succ i=>exact .inl (by simpa using hc)
  | succ j=>
   simp only [zj1] at h
   split at h
   · rename_i r' hr
     cases h
     obtain ⟨h1,h2⟩:=ih hr
     refine ⟨by simp [h1],fun i c hc=>?_⟩
     cases i with
     | zero=>exact .inl (by simpa using hc)
     | succ i=>simpa using h2 i c (by simpa using hc)
   · cases h
section
variable {N:Nat} {C:Ctx} {L:List (Nat×AV)} {M:List (Nat×Blk)} {g:Nat}
theorem At.zdF {R:Act→World→Prop} (i0 j0 id ty sz:Nat) {e:Nat→List AV} {cs cs':List AV} (hc:mm M i0=some (.cells cs)) (hs:zj1 cs j0 id=some cs') (hid:mm M id=none) (K:At N C L ((i0,.cells cs')::(id,.buf ty sz 0 e)::M) g R):At N C L M g R:=by
 intro h ρ a w I
 have hρ:=I.dom id hid
 have hne0:i0≠id:=by rintro rfl;rw [hc] at hid;cases hid
 have hle:∀ i l,ρ i=some l→∃ l',upd ρ id (some (.sl 0 sz (.slice none 0 0))) i=some l'∧l.le l':=by
  intro i l hi
  have hne:i≠id:=by rintro rfl;rw [hρ] at hi;cases hi
  exact ⟨l,by rw [zae _ _ hne];exact hi,.inl rfl⟩
 have I':InvH N C h (upd ρ id (some (.sl 0 sz (.slice none 0 0)))) (fr L) (mm ((id,.buf ty sz 0 e)::M)) g a w:=by
  refine I.step (S:=fun i=>i=id) rfl rfl rfl (Nat.le_refl _) (fun _ _ _=>rfl) (fun i hi=>zae _ _ hi) hle (fun _ _ h=>h) (fun _ _ h=>.inl h) (fun i hi=>zae _ _ hi) ?_ ?_ ?_ ?_
  · rintro i rfl hM;simp only [mm] at hM;rw [zaf] at hM;cases hM
  · rintro i y rfl hM;simp only [mm] at hM;rw [zaf] at hM;cases hM
    exact ⟨.slice none 0 0,[],zaf _ _ _,⟨by simp,.inl ⟨rfl,rfl⟩⟩,fun j hj=>(by omega),fun x hx=>(by cases hx),fun j k c x hj=>(by omega)⟩
  · rintro i l b rfl h1 h2;rw [zaf] at h1;cases h1;simp [LI.owns,Value.ownBlock] at h2
  · rintro i i' l l' b rfl rfl _ _ _ _;rfl
 refine K h _ a w { I' with blk:=fun i x hx=>?_,dom:=fun i hi=>I'.dom i ?_ }
 · simp only [mm] at hx
   by_cases hi:i=i0
   · subst hi
     rw [zaf] at hx;cases hx
     have hold:mm ((id,.buf ty sz 0 e)::M) i=some (.cells cs):=by simp only [mm];rw [zae _ _ hne0];exact hc
     obtain ⟨b,vs,ty',q1,q2,q3,q4⟩:=I'.blk i _ hold
     obtain ⟨s1,s2⟩:=zmq hs
     refine ⟨b,vs,ty',q1,q2,by rw [q3,s1],fun j c v hj hv=>?_⟩
     rcases s2 j c hj with e1|⟨rfl,e1⟩
     · exact q4 j c v e1 hv
     · have:=q4 j _ v e1 hv
       cases this
       exact .buf _ _ _ _ _ _ _ (zaf _ _ _) (Nat.le_refl _) rfl (fun _=>rfl)
   · rw [zae _ _ hi] at hx
     exact I'.blk i x hx
 · simp only [mm] at hi ⊢
   by_cases hi0:i=i0
   · subst hi0;rw [zaf] at hi;cases hi
   · rw [zae _ _ hi0] at hi;exact hi
end
open Go.Sp
def MSeg {T:Type} [Inhabited T] (f:T→AV) (dom:Int→Bool) (e:Int→AV) (n:Nat) (m:Mp T):Prop:=(∀ k,dom k=(m.get k).isSome)∧(∀ k,e k=f ((m.get k).getD default))∧n=m.card
theorem MSeg.refl {T:Type} [Inhabited T] (f:T→AV) (m:Mp T):MSeg f (fun k=>(m.get k).isSome) (fun k=>f ((m.get k).getD default)) m.card m:=⟨fun _=>rfl,fun _=>rfl,rfl⟩
theorem MSeg.set {T:Type} [Inhabited T] {f:T→AV} {dom:Int→Bool} {e:Int→AV} {n:Nat} {m:Mp T} (h:MSeg f dom e n m) {q:Int} (x:T) {ex:AV} (hx:ex=f x) :
 MSeg f (fun j=>decide (j=q) || dom j) (fun j=>bif decide (j=q) then ex else e j) (bif dom q then n else n+1) (m.set q x):=by
 obtain ⟨h1,h2,rfl⟩:=h
 subst hx
 refine ⟨fun k=>?_,fun k=>?_,?_⟩
 · by_cases hk:k=q
   · subst hk;simp [Mp.set]
   · simp [Mp.set,hk,h1]
 · by_cases hk:k=q
   · subst hk;simp [Mp.set]
   · simp [Mp.set,hk,h2]
 · rw [h1]
   simp only [Mp.set]
   cases (m.get q).isSome <;> rfl
theorem BSim.mseg {T:Type} [Inhabited T] {z:Value} {f:T→AV} {dom:Int→Bool} {e:Int→AV} {n:Nat} {m:Mp T} (h:MSeg f dom e n m):BSim (.map z dom e n) (mapL z f m):=BSim.map h.1 h.2.1 h.2.2
end Go.Av
end
/- Ranges over functions: what an iterator promises; the statement. -/
section
set_option linter.all false
namespace Go.Av
open Go.Sp
def Stab (J:(Nat→Prop)→World→Prop):Prop:=∀ (X X':Nat→Prop) (w w':World),J X w→w'.os=w.os→w'.tape=w.tape→w'.output=w.output→w.heap.size≤w'.heap.size→(∀ k,k<w.heap.size→¬ X k→w'.heap[k]? = w.heap[k]?) →
 (∀ b,X' b→X b∨w.heap.size≤b)→J X' w'
def zmf (h:Hp) (X:Nat→Prop) (W:World) (J:Bool→World→Prop):Ending→World→Prop:=fun e W'=>∃ b,e = .returned (.bool b)∧J b W'∧W'.os=W.os∧W'.tape=W.tape∧W'.output=W.output∧W.heap.size≤W'.heap.size ∧
 (∀ k,k<W.heap.size→X k→W'.heap[k]? = W.heap[k]?)∧∀ k o,h k=some o→W'.heap[k]? = some o
def zme (h0:Hp) (x y:AV):Prop:=∀ h ρ v,Rel h ρ x v→Rel h0 ρ0 y v
inductive UnL (h0:Hp):List AV→List AV→Prop
 | nil:UnL h0 [] []
 | cons {x y:AV} {xs ys:List AV}:zme h0 x y→UnL h0 xs ys→UnL h0 (x::xs) (y::ys)
theorem zme.gr {h0:Hp} {x:AV} (hg:x.gr=true):zme h0 x x:=fun _ _ _ H=>H.zqY hg
theorem zme.pin {h0:Hp} {x:AV}:zme h0 (.pin h0 x) x:=fun _ _ _ H=>by cases H with|pin _ _ _ _ hl hv=>exact hv
theorem UnL.spec {h0:Hp} {xs ys:List AV} (H:UnL h0 xs ys):xs.length=ys.length∧∀ (i:Nat) (y:AV),ys[i]? = some y→∃ x,xs[i]? = some x∧zme h0 x y:=by
 induction H with
 | nil=>exact ⟨rfl,fun i y h=>by simp at h⟩
 | cons h _ ih=>
  refine ⟨by simp [ih.1],fun i y hy=>?_⟩
  cases i with
  | zero=>simp at hy;subst hy;exact ⟨_,rfl,h⟩
  | succ i=>simpa using ih.2 i y (by simpa using hy)
theorem zme.agg {h0:Hp} {xs ys:List AV} (H:UnL h0 xs ys):zme h0 (.agg xs) (.agg ys):=by
 intro h ρ v R
 cases R with
 | agg _ _ vs hl hc=>
  refine .agg _ _ _ (by rw [hl,H.spec.1]) fun i c v h1 h2=>?_
  obtain ⟨x,e1,e2⟩:=H.spec.2 i c h1
  exact e2 h ρ v (hc i x v e1 h2)
theorem UnL.rel {h0 h:Hp} {ρ:Rho} {xs ys:List AV} {vs:List Value} (H:UnL h0 xs ys) (R:RelL h ρ xs vs):RelL h0 ρ0 ys vs:=by
 refine ⟨by rw [R.1,H.spec.1],fun i c v h1 h2=>?_⟩
 obtain ⟨x,e1,e2⟩:=H.spec.2 i c h1
 exact e2 h ρ v (R.2 i x v e1 h2)
def Yld (P:Program) (h:Hp) (l:Nat) (J:Nat→(Nat→Prop)→World→Prop) (items:List (List AV)):Prop:=
 ∀ (k:Nat) (X:Nat→Prop) (W:World) (it:List AV) (us:List Value),J (k+1) X W→items[k]? = some it→RelL h ρ0 it us →
  ∃ fn tmps assign body,(Instr.yield l us.toArray).run P W = .ok (.round l fn tmps assign body) W∧RoundIn (Fw none) 1 P l fn tmps assign body W (zmf h X W (fun b=>J (bif b then k+2 else 0) (fun b'=>X b'∧b'<W.heap.size)))
def zlk (J:Nat→(Nat→Prop)→World→Prop) (n:Nat):Ending→World→Prop:=fun e w'=>(∃ v,e = .returned v)∧∃ X,J (n+1) X w'∨J 0 X w'
def Iter (P:Program) (f:FuncId) (caps:List AV) (items:List (List AV)):Prop:=
 Enters P f∧∀ (h:Hp) (w:World) (vs:List Value),RelL h ρ0 caps vs→(∀ b o,h b=some o→w.heap[b]? = some o) →
  ∀ (l:Nat) (J:Nat→(Nat→Prop)→World→Prop),(∀ k,Stab (J k))→Yld P h l J items→J 1 (fun _=>False) w→CallsIn (Fw none) 0 P f (Value.func (.yield l) #[] #[]::vs).toArray w (zlk J items.length)
def Ci (w0:World) (h0:Hp) (J:Nat→(Nat→Prop)→World→Prop) (hJ:∀ k,Stab (J k)):Ctx:={ w0:=w0,h0:=h0,savA:=[],savV:=[],bor:=fun b=>h0 b=none,gh:=J,gh_step:=fun g X X' w w'=>hJ g X X' w w' }
def zqB (P:Program) (fn:Func) (J:Nat→(Nat→Prop)→World→Prop) (n:Nat):Exit→Act→World→Prop:=bodyPostM (Fw none) 1 P fn (zlk J n)
theorem zly {P:Program} {l f:Nat} {tmps:Array Value} {assign body:Code} {w:World} {R:Ending→World→Prop} {n n':Nat} (H:RoundIn (Fw none) n P l f tmps assign body w R):RoundIn (Fw none) n' P l f tmps assign body w R:=
 ⟨trivial,fun c cs _=>H.2 c cs (zqC _ _)⟩
section
variable {P:Program} {N:Nat} {Γ:Tys} {C:Ctx} {rr:Option Nat} {L:List (Nat×AV)} {M:List (Nat×Blk)} {g:Nat} {Q:Exit→Act→World→Prop} {R:Act→World→Prop}
variable {w0:World} {h0:Hp} {J:Nat→(Nat→Prop)→World→Prop} {hJ:∀ k,Stab (J k)}
theorem InvH.zkn {h:Hp} {ρ:Rho} {F:Fr} {Mx:Mm} {a:Act} {w W':World} {g':Nat} (I:InvH N (Ci w0 h0 J hJ) h ρ F Mx g a w) {X:Nat→Prop} (x1:∀ b,zcw ρ b→X b) (x2:∀ b o,h b=some o→h0 b=some o∨X b)
 (hos:W'.os=w.os) (htape:W'.tape=w.tape) (hout:W'.output=w.output) (hsz:w.heap.size≤W'.heap.size) (hX:∀ k,k<w.heap.size→X k→W'.heap[k]? = w.heap[k]?) (hh:∀ k o,h0 k=some o→W'.heap[k]? = some o) (hJ':J g' (fun b=>X b∧b<w.heap.size) W'):InvH N (Ci w0 h0 J hJ) h ρ F Mx g' a W':=by
 refine { I with hp:=fun b o hb=>?_,blk:=fun id x hx=>?_,own:=fun id li b q1 q2=>?_,os:=hos.trans I.os,tape:=htape.trans I.tape,out:=hout.trans I.out,sz:=Nat.le_trans I.sz hsz,kept:=fun k hk hb=>?_,gst:=⟨_,fun b hb=>⟨x1 b hb,let ⟨id,li,q1,q2⟩:=hb;(I.own id li b q1 q2).2.1⟩,fun b o hb=>(x2 b o hb).imp (fun h=>h) (fun h=>⟨h,I.hlt hb⟩),hJ'⟩ }
 · rcases x2 b o hb with h1|h1
   · exact hh b o h1
   · rw [hX b (I.hlt hb) h1];exact I.hp b o hb
 · exact (I.blk id x hx).keep (Le.refl h) rfl (zcU _) (fun li b q1 q2=>hX b (I.own id li b q1 q2).2.1 (x1 b ⟨id,li,q1,q2⟩))
 · obtain ⟨q3,q4,q5⟩:=I.own id li b q1 q2
   exact ⟨q3,Nat.lt_of_lt_of_le q4 hsz,q5⟩
 · rw [← I.kept k hk hb]
   cases ho:h0 k with
   | none=>exact absurd ho hb
   | some o=>rw [hh k o ho,I.hp k o (I.ext k o ho)]
theorem Trace.lexK {ops:Array Oper} {F F':Fr} {M M':Mm} {os:List Oper} {rs:List OpRes} {Z:Ctx→Prop} (T:Trace Z P N ops F M os rs F' M') {C:Ctx} (hZ:Z C) {g:Nat} {rr:Option Nat} {n:Nat} {Q:Exit→Act→World→Prop} (rest:List Nat)
 (hQ:∀ h ρ a w,InvH N C h ρ F' M' g a w→wpOpsIn (Fw rr) n P ops Q rest a w):∀ (k:Nat) (h:Hp) (ρ:Rho) (a:Act) (w:World),InvH N C h ρ F M g a w→(∀ o,o∈os→∀ d,o.dst=some d→d<N)→(∀ j,os[j]? = ops[k+j]? ∨ os.length≤j) →
  wpOpsIn (Fw rr) n P ops Q (List.range' k os.length++rest) a w:=by
 induction T with
 | nil F M=>intro k h ρ a w I _ _;exact hQ h ρ a w I
 | cons hop _ ih=>
  rename_i F M o r os rs F' M' T'
  intro k h ρ a w I hd hos
  have h0:ops[k]? = some o:=by
   rcases hos 0 with e|e
   · simpa using e.symm
   · simp at e
  simp only [List.length_cons,List.range'_succ,List.cons_append]
  rw [wpOpsIn_cons]
  unfold wpOpIn
  simp only [h0]
  refine hop C hZ h ρ F M g a w I (fun _ _=>rfl) (fun _ _=>rfl) rr n _ Q (fun x h' ρ' w' I' hv=>ih hQ (k+1) h' ρ' _ w' (I'.put (fun d hd'=>hd o (List.mem_cons_self ..) d hd') hv) (fun o' ho'=>hd o' (List.mem_cons_of_mem _ ho')) (fun j=>?_))
  rcases hos (j+1) with e|e
  · left;simpa [Nat.add_assoc,Nat.add_comm 1 j] using e
  · right;simpa using e
theorem zi8 {a:Act} {o:Oper} {f:Operand} {args:Array Operand} {ts:Array TypeId} (ho:o.op = .call { callee:=.value f,args:=args,argTypes:=ts }) {l:Nat} (he:a.eval f = .func (.yield l) #[] #[]) (w:World) :
 (execOp a.eval o).run P w=(Instr.yield l (args.map a.eval)).run P w:=by
 unfold execOp
 simp [ho,resolve,Deferred.ofValue,invoke,he]
theorem RelL.closed {h:Hp} {ρ:Rho} {cs:List AV} {vs:List Value} (H:RelL h ρ0 cs vs):RelL h ρ cs vs:=⟨H.1,fun i c v a b=>(H.2 i c v a b).closed⟩
theorem At.iret {fn:Func} {n:Nat} (hr:fn.results.toList=[]) (hg:g=0∨g=n+1) (hval:∀ b o,h0 b=some o→w0.heap[b]? = some o):At N (Ci w0 h0 J hJ) L M g (zqB P fn J n .ret):=by
 intro h ρ a w I
 obtain ⟨Ds,hd1,hd2,hd3⟩:=I.dfr
 obtain ⟨X,x1,x2,x3⟩:=I.gst
 show LeavesInM (Fw none) 1 P fn a.tmps (zlk J n) a.defers .returning w
 rw [hd1]
 refine leaves Ds w hd2 (fun D hD=>I.hp _ _ (hd3 D hD).1) (fun w2 e1 e2 e3 e4 e5=>?_)
 have hJ2:J g X w2:=hJ g X X w w2 x3 e1 e2 e3 (by omega) (fun k _ hk=>e5 k (fun hkD=>by
  rcases x2 k _ (hd3 k hkD).1 with h1|h1
  · exact absurd (zgc (hval k _ h1)) (Nat.not_lt.2 (hd3 k hkD).2)
  · exact hk h1)) (fun b hb=>.inl hb)
 refine ⟨.tuple #[],?_,⟨_,rfl⟩,X,?_⟩
 · unfold results
   rw [Array.mapM_eq_mapM_toList,hr]
   simp [Sem.run_bind]
 · rcases hg with rfl|rfl
   · exact .inr hJ2
   · exact .inl hJ2
end
end Go.Av
end
/- A region that draws its order and yields once, with all that stands ahead of the yield done by then: whatever the order. -/
section
set_option linter.all false
namespace Go.Av
open Go.Sp
theorem intEq {k:IntKind} {n m:Int} (h:n=m):AV.int k n=AV.int k m:=h▸rfl
def zqu (m:Nat):Nat→Bool
 | 0=>true
 | n+1=>match m.testBit n with
  | true=>zqu m n
  | false=>false
def hasB (k:Nat):List Item→Bool
 | []=>true
 | x::r=>match x.mask.testBit k with
  | true=>hasB k r
  | false=>false
def zoC (ops:Array Oper) (ft:List (List Nat×List Nat)) (k:Nat):Bool:=match items ops ops.toList ft [] 0 with
 | some l=>match nthN k l with
  | some x=>match zoA 0 l with
   | true=>match zqu x.mask k with
    | true=>hasB k (l.drop (k+1))
    | false=>false
   | false=>false
  | none=>false
 | none=>false
theorem zkg {m:Nat}:∀ {n:Nat},zqu m n=true→∀ i,i<n→m.testBit i=true
 | n+1,h,i,hi=>by
  unfold zqu at h
  split at h
  · rename_i hb
    by_cases e:i=n
    · rw [e];exact hb
    · exact zkg h i (by omega)
  · cases h
theorem zlU {k:Nat}:∀ {l:List Item},hasB k l=true→∀ (j:Nat) (x:Item),l[j]? = some x→x.mask.testBit k=true
 | y::r,h,j,x,hx=>by
  unfold hasB at h
  split at h
  · rename_i hb
    cases j with
    | zero=>simp at hx;subst hx;exact hb
    | succ j=>exact zlU h j x (by simpa using hx)
  · cases h
section
variable {P:Program} {N:Nat} {ops:Array Oper}
def Far (ops:Array Oper) (fts:List (List Nat×List Nat)):Prop:=
 ∀ (i j:Nat) (o o':Oper) (f f':List Nat×List Nat),i<j→ops[i]? = some o→fts[i]? = some f→ops[j]? = some o'→fts[j]? = some f'→¬ Anc ops i j →
  (∀ t,o.dst=some t→t ∉ o'.looksAt ops)∧(∀ t,o'.dst=some t→t ∉ o.looksAt ops)∧(∀ t,o.dst=some t→o'.dst≠some t)∧(∀ t,t∈f.2→t ∉ f'.1)∧(∀ t,t∈f'.2→t ∉ f.1)∧(∀ t,t∈f.2→t ∉ f'.2)
def Back (ops:Array Oper):Prop:=∀ (i:Nat) (o:Oper) (e:Edge),ops[i]? = some o→e∈o.after→Region.binds .any e=true→e.on<i
theorem zjh {fts:List (List Nat×List Nat)} {k:Nat} (h:zoC ops fts k=true):Far ops fts∧Back ops∧(∀ i,i<k→Anc ops i k)∧(∀ j,k<j→j<ops.size→Anc ops k j)∧fts.length=ops.size:=by
 unfold zoC at h
 split at h
 case h_2=>cases h
 rename_i l hl
 split at h
 case h_2=>cases h
 rename_i x hx
 split at h
 case h_2=>cases h
 rename_i hok
 split at h
 case h_2=>cases h
 rename_i hbits
 obtain ⟨hlen,hft,hit⟩:=zic hl rfl (fun k i h=>by simp at h) (fun k=>.inl (by simp))
 simp only [Nat.zero_add] at hit
 have hn:ops.toList.length=ops.size:=by simp
 have hpair:=zh6 hok
 simp only [Nat.zero_add] at hpair
 refine ⟨?_,?_,?_,?_,by rw [hft,hn]⟩
 · intro i j o o' f f' hij ho hf ho' hf' hA
   have hi:i<l.length:=by rw [hlen,hn];exact (Array.getElem?_eq_some_iff.1 ho).1
   have hj:j<l.length:=by rw [hlen,hn];exact (Array.getElem?_eq_some_iff.1 ho').1
   obtain ⟨o1,f1,h1,h2,a1,a2,a3,a4,_,_⟩:=hit i l[i] (List.getElem?_eq_getElem hi)
   obtain ⟨o2,f2,h3,h4,b1,b2,b3,b4,b5,_⟩:=hit j l[j] (List.getElem?_eq_getElem hj)
   rw [Array.getElem?_toList,ho] at h1;cases h1
   rw [Array.getElem?_toList,ho'] at h3;cases h3
   rw [hf] at h2;cases h2
   rw [hf'] at h4;cases h4
   have h0:=hpair i j _ _ hij (List.getElem?_eq_getElem hi) (List.getElem?_eq_getElem hj)
   have hc:confl l[i] l[j]=false:=by
    unfold zlD at h0
    split at h0
    · exact absurd (b5 i h0) hA
    · assumption
   unfold confl at hc
   simp only [Bool.or_eq_false_iff] at hc
   obtain ⟨⟨⟨⟨⟨c1,c2⟩,c3⟩,c4⟩,c5⟩,c6⟩:=hc
   refine ⟨fun t ht hin=>?_,fun t ht hin=>?_,fun t ht hin=>?_,fun t ht hin=>?_,fun t ht hin=>?_,fun t ht hin=>?_⟩
   · rw [zgK (a1.trans ht) (b2▸hin)] at c1;cases c1
   · rw [zgK (b1.trans ht) (a2▸hin)] at c2;cases c2
   · rw [a1.trans ht,b1.trans hin] at c3;simp [zmr] at c3
   · rw [zdY (a4▸ht) (b3▸hin)] at c4;cases c4
   · rw [zdY (b4▸ht) (a3▸hin)] at c5;cases c5
   · rw [zdY (a4▸ht) (b4▸hin)] at c6;cases c6
 · intro i o e ho he hb
   have hi:i<l.length:=by rw [hlen,hn];exact (Array.getElem?_eq_some_iff.1 ho).1
   obtain ⟨o1,f1,h1,_,_,_,_,_,_,h8⟩:=hit i l[i] (List.getElem?_eq_getElem hi)
   rw [Array.getElem?_toList,ho] at h1;cases h1
   exact h8 e he hb
 · intro i hi
   obtain ⟨_,_,_,_,_,_,_,_,h7,_⟩:=hit k x (zfA hx)
   exact h7 i (zkg hbits i hi)
 · intro j hkj hj
   have hj':j<l.length:=by rw [hlen,hn];exact hj
   obtain ⟨_,_,_,_,_,_,_,_,h7,_⟩:=hit j l[j] (List.getElem?_eq_getElem hj')
   refine h7 k (zlU h (j - (k+1)) l[j] ?_)
   rw [List.getElem?_drop,show k+1+(j - (k+1))=j by omega]
   exact List.getElem?_eq_getElem hj'
theorem zla {S:Nat→Bool} {K:Nat}:∀ {n:Nat},(∀ i,i<n→S i=decide (i<K))→cnt S n=n - K
 | 0,_=>by simp [cnt]
 | n+1,h=>by
  have ih:=zla (S:=S) (K:=K) (n:=n) (fun i hi=>h i (by omega))
  have h0:=h n (by omega)
  unfold cnt
  by_cases e:n<K
  · rw [h0];simp [e,ih];omega
  · rw [h0];simp [e,ih];omega
theorem zpB {F0 F1:Fr} {M0 M1:Mm} {os:List Oper} {rs:List OpRes} {Z:Ctx→Prop} (T:Trace Z P N ops F0 M0 os rs F1 M1) (m:Nat) (hos:∀ j,j<os.length→ops[m+j]? = os[j]?) (hle:m+os.length≤ops.size) {fts:List (List Nat×List Nat)}
 (hft:∀ (j:Nat) (r:OpRes),rs[j]? = some r→fts[m+j]? = some (r.rd,r.wr.map (·.1))) (hfar:Far ops fts) (hback:Back ops) (neck:∀ i,m+os.length≤i→i<ops.size→∀ j,j<os.length→Anc ops (m+j) i)
 (hdst:∀ o,o∈os→∀ d,o.dst=some d→d<N) {C:Ctx} (hZ:Z C) {g:Nat} {rr:Option Nat} {n:Nat} {Q:Exit→Act→World→Prop}
 (hQ:∀ (listed:Array Bool) (h:Hp) (ρ:Rho) (a:Act) (w:World),listed.size=ops.size→(∀ i,i<ops.size→listed.getD i false=decide (i<m+os.length))→InvH N C h ρ F1 M1 g a w→wpAnyIn (Fw rr) n P .any ops Q (ops.size - (m+os.length)) listed a w) :
 ∀ (fuel:Nat) (listed:Array Bool) (h:Hp) (ρ:Rho) (a:Act) (w:World),listed.size=ops.size→cnt (fun i=>listed.getD i false) ops.size=fuel→zks ops (fun i=>listed.getD i false) →
  (∀ i,i<m→listed.getD i false=true)→(∀ i,m+os.length≤i→listed.getD i false=false) →
  InvH N C h ρ (stF F0 (dvs os rs) (fun i=>listed.getD i false) m) (stM M0 (rs.map (·.wr)) (fun i=>listed.getD i false) m) g a w→wpAnyIn (Fw rr) n P .any ops Q fuel listed a w:=by
 have hrs:∀ (i:Nat) (o:Oper),os[i]? = some o→∃ r,rs[i]? = some r:=by
  intro i o ho
  have hi:i<rs.length:=by rw [T.len];exact (List.getElem?_eq_some_iff.1 ho).1
  exact ⟨rs[i],List.getElem?_eq_getElem hi⟩
 have hgd:∀ (listed:Array Bool) (i:Nat),listed.size=ops.size→i<ops.size→listed.getD i true=listed.getD i false:=by
  intro listed i hs hi
  have:i<listed.size:=by omega
  simp [this]
 intro fuel
 induction fuel with
 | zero=>
  intro listed h ρ a w hs hc hcl hlo hhi I
  have hall:=zk9 hc
  have hlen:ops.size≤m+os.length:=by
   rcases Nat.lt_or_ge (m+os.length) ops.size with h1|h1
   · have h2:=hall _ h1
     have h3:=hhi _ (Nat.le_refl _)
     rw [h3] at h2;cases h2
   · exact h1
  obtain ⟨e1,e2⟩:=T.all (fun i=>listed.getD i false) m (fun i hi=>hall _ (by omega))
  rw [e1,e2] at I
  have:=hQ listed h ρ a w hs (fun i hi=>by rw [hall i hi];simp;omega) I
  rwa [show ops.size - (m+os.length)=0 by omega] at this
 | succ fuel ih=>
  intro listed h ρ a w hs hc hcl hlo hhi I
  by_cases hall:∀ i,i<os.length→listed.getD (m+i) false=true
  · obtain ⟨e1,e2⟩:=T.all (fun i=>listed.getD i false) m (fun i hi=>hall i hi)
    rw [e1,e2] at I
    have hd:∀ i,i<ops.size→listed.getD i false=decide (i<m+os.length):=by
     intro i hi
     by_cases e:i<m+os.length
     · rw [decide_eq_true e]
       by_cases e3:i<m
       · exact hlo i e3
       · have:=hall (i - m) (by omega)
         rwa [show m+(i - m)=i by omega] at this
     · rw [decide_eq_false e];exact hhi i (by omega)
    have:=hQ listed h ρ a w hs hd I
    rw [zla hd] at hc
    rwa [hc] at this
  · refine ⟨fun h0=>?_,fun i hi=>?_⟩
    · exfalso
      have key:∀ q i,i<q→i<ops.size→listed.getD i false=true:=by
       intro q
       induction q with
       | zero=>intro i hi;omega
       | succ q ihq=>
        intro i him hi
        cases hl':listed.getD i false with
        | true=>rfl
        | false=>
         exfalso
         have ho:ops[i]? = some ops[i]:=Array.getElem?_eq_getElem hi
         have:i∈Region.ready .any ops listed:=mem_ready.2 ⟨by rw [hgd listed i hs hi];exact hl',_,ho,fun e he hb=>ihq e.on (by have:=hback i _ e ho he hb;omega) (by have:=hback i _ e ho he hb;omega)⟩
         rw [h0] at this;cases this
      exact hall (fun i hi=>key (m+i+1) (m+i) (by omega) (by omega))
    · obtain ⟨h1,o,ho,hdone⟩:=mem_ready.1 hi
      have hin:=(Array.getElem?_eq_some_iff.1 ho).1
      rw [hgd listed i hs hin] at h1
      have anc1:∀ k,Anc ops k i→listed.getD k false=true:=by
       intro k A
       obtain ⟨j,hj⟩:∃ j,j=i:=⟨i,rfl⟩
       rw [← hj] at A
       induction A with
       | edge q1 q2 q3 q4=>subst hj;rw [ho] at q1;cases q1;exact q4▸hdone _ q2 q3
       | trans A1 _ _ ih2=>exact A1.closed hcl (ih2 hj)
      have anc2:∀ k,Anc ops i k→listed.getD k false=false:=by
       intro k A
       cases hk:listed.getD k false with
       | false=>rfl
       | true=>
        have:listed.getD i false=true:=A.closed hcl hk
        rw [h1] at this;cases this
      have him:m≤i:=by
       rcases Nat.lt_or_ge i m with h2|h2
       · rw [hlo i h2] at h1;cases h1
       · exact h2
      have hiu:i<m+os.length:=by
       rcases Nat.lt_or_ge i (m+os.length) with h2|h2
       · exact h2
       · exact absurd (fun j hj=>anc1 _ (neck i h2 hin j hj)) hall
      obtain ⟨p,rfl⟩:∃ p,i=m+p:=⟨i - m,by omega⟩
      have hp:p<os.length:=by omega
      have hop0:os[p]? = some o:=by rw [← hos p hp];exact ho
      obtain ⟨r,hr⟩:=hrs p o hop0
      have hop:=T.at m p o r hop0 hr
      have apartT:∀ (k:Nat) (o':Oper) (r':OpRes),os[k]? = some o'→rs[k]? = some r'→k≠p→(listed.getD (m+k) false≠decide (m+k<m+p)) →
       (∀ t,o'.dst=some t→t ∉ o.looksAt ops)∧(∀ t,t∈r'.wr.map (·.1)→t ∉ r.rd)∧(∀ t,o.dst=some t→o'.dst≠some t)∧(∀ t,t∈r.wr.map (·.1)→t ∉ r'.wr.map (·.1)):=by
       intro k o' r' ho' hr' hne hd
       have hkl:=(List.getElem?_eq_some_iff.1 ho').1
       have ho2:ops[m+k]? = some o':=by rw [hos k hkl];exact ho'
       rcases Nat.lt_or_ge k p with hlt|hge
       · have hk:listed.getD (m+k) false=false:=by
          cases hk:listed.getD (m+k) false with
          | false=>rfl
          | true=>rw [hk] at hd;simp [hlt] at hd
         have hA:¬ Anc ops (m+k) (m+p):=fun A=>by rw [anc1 _ A] at hk;cases hk
         obtain ⟨f1,f2,f3,f4,f5,f6⟩:=hfar (m+k) (m+p) o' o _ _ (by omega) ho2 (hft k r' hr') ho (hft p r hr) hA
         exact ⟨f1,f4,fun t h1 h2=>f3 t h2 h1,fun t h1 h2=>f6 t h2 h1⟩
       · have hgt:p<k:=by omega
         have hk:listed.getD (m+k) false=true:=by
          cases hk:listed.getD (m+k) false with
          | true=>rfl
          | false=>rw [hk] at hd;simp [Nat.not_lt.2 hge] at hd
         have hA:¬ Anc ops (m+p) (m+k):=fun A=>by rw [anc2 _ A] at hk;cases hk
         obtain ⟨f1,f2,f3,f4,f5,f6⟩:=hfar (m+p) (m+k) o o' _ _ (by omega) ho (hft p r hr) ho2 (hft k r' hr') hA
         exact ⟨f2,f5,f3,f6⟩
      have hset:∀ j,j≠m+p→(listed.setIfInBounds (m+p) true).getD j false=listed.getD j false:=fun j hj=>getD_set_ne false (Ne.symm hj)
      have hseti:(listed.setIfInBounds (m+p) true).getD (m+p) false=true:=by
       have:m+p<listed.size:=by omega
       simp [this]
      unfold wpOpIn
      simp only [ho]
      refine hop C hZ h ρ _ _ g a w I (fun t ht=>zfd rfl (fun k d v hk hd hdt=>?_)) (fun t ht=>zeF rfl (fun k wr hk hd hin'=>?_)) rr n _ Q (fun x h' ρ' w' I' hv=>?_)
      · obtain ⟨o',r',e1,e2,e3⟩:=zk6 hk
        cases e3
        by_cases hki:k=p
        · subst hki;simp [h1] at hd
        · exact (apartT k o' r' e1 e2 hki hd).1 t hdt ht
      · simp only [List.getElem?_map,Option.map_eq_some_iff] at hk
        obtain ⟨r',e2,rfl⟩:=hk
        have hk':k<os.length:=by
         have:=(List.getElem?_eq_some_iff.1 e2).1
         rwa [T.len] at this
        by_cases hki:k=p
        · subst hki;simp [h1] at hd
        · exact (apartT k _ r' (List.getElem?_eq_getElem hk') e2 hki hd).2.1 t hin' ht
      · have hF:stF F0 (dvs os rs) (fun j=>(listed.setIfInBounds (m+p) true).getD j false) m=putO (stF F0 (dvs os rs) (fun j=>listed.getD j false) m) o.dst r.v:=by
         funext t
         refine zmo (i:=p) (zpp hop0 hr) (by simpa using h1) (by simpa using hseti) (fun j hj=>by simpa using hset (m+j) (by omega)) (fun j e u hij hj hs' t' ht'=>?_) t
         obtain ⟨o',r',e1,e2,e3⟩:=zk6 hj
         cases e3
         exact (apartT j o' r' e1 e2 (by omega) (by rw [hs'];simp;omega)).2.2.1 t' ht'
        have hM:stM M0 (rs.map (·.wr)) (fun j=>(listed.setIfInBounds (m+p) true).getD j false) m=updL (stM M0 (rs.map (·.wr)) (fun j=>listed.getD j false) m) r.wr:=by
         funext t
         refine zmn (i:=p) (by simp [hr]) (by simpa using h1) (by simpa using hseti) (fun j hj=>by simpa using hset (m+j) (by omega)) (fun j wr' hij hj hs' t' ht'=>?_) t
         simp only [List.getElem?_map,Option.map_eq_some_iff] at hj
         obtain ⟨r',e2,rfl⟩:=hj
         have hj':j<os.length:=by
          have:=(List.getElem?_eq_some_iff.1 e2).1
          rwa [T.len] at this
         exact (apartT j _ r' (List.getElem?_eq_getElem hj') e2 (by omega) (by rw [hs'];simp;omega)).2.2.2 t' ht'
        refine ih (listed.setIfInBounds (m+p) true) h' ρ' _ w' (by simp [hs]) ?_ ?_ ?_ ?_ ?_
        · have:=zpt (S:=fun j=>listed.getD j false) (S':=fun j=>(listed.setIfInBounds (m+p) true).getD j false) h1 hseti hset ops.size hin
          omega
        · intro j o' ho' hj e he hb
          by_cases hji:j=m+p
          · subst hji
            rw [ho] at ho';cases ho'
            by_cases hei:e.on=m+p
            · rw [hei];exact hseti
            · simp only [hset _ hei];exact hdone e he hb
          · simp only [hset _ hji] at hj
            by_cases hei:e.on=m+p
            · rw [hei];exact hseti
            · simp only [hset _ hei];exact hcl j o' ho' hj e he hb
        · intro j hj;rw [hset j (by omega)];exact hlo j hj
        · intro j hj;rw [hset j (by omega)];exact hhi j hj
        · rw [hF,hM]
          exact I'.put (fun d hd=>hdst o (List.mem_of_getElem? hop0) d hd) hv
theorem zqx {listed:Array Bool} (hs:listed.size=ops.size) (hall:∀ i,i<ops.size→listed.getD i false=true):Region.ready .any ops listed=[]:=by
 rcases hr:Region.ready .any ops listed with _|⟨i,t⟩
 · rfl
 · obtain ⟨h1,o,ho,_⟩:=mem_ready.1 (hr▸List.mem_cons_self .. : i∈Region.ready .any ops listed)
   have hi:=(Array.getElem?_eq_some_iff.1 ho).1
   have:=hall i hi
   have hi':i<listed.size:=by omega
   have e:listed.getD i true=listed.getD i false:=by simp [hi']
   rw [e,this] at h1;cases h1
end
section
variable {P:Program} {N:Nat} {Γ:Tys} {L:List (Nat×AV)} {M:List (Nat×Blk)} {g:Nat} {Q:Exit→Act→World→Prop}
variable {w0:World} {h0:Hp} {J:Nat→(Nat→Prop)→World→Prop} {hJ:∀ k,Stab (J k)}
end
end Go.Av
end
/- A region that draws its order and yields once, without a guard. -/
section
set_option linter.all false
namespace Go.Av
open Go.Sp
section
variable {P:Program} {N:Nat} {Γ:Tys} {L:List (Nat×AV)} {M:List (Nat×Blk)} {g:Nat} {Q:Exit→Act→World→Prop}
variable {w0:World} {h0:Hp} {J:Nat→(Nat→Prop)→World→Prop} {hJ:∀ k,Stab (J k)}
theorem W.regionYf (E:Env P Γ) {l:Nat} {items:List (List AV)} (hY:Yld P h0 l J items) {id:Nat} {ops:Array Oper} (own:List Nat) (k:Nat) (rvs1 rvs2:List RV) {A1:Acc} {A2:Bool→Acc} {y:Oper} {post:List Oper} {f:Operand} {args:Array Operand} {ts:Array TypeId} {it itp:List AV} {d:Nat}
 (hk:ops.toList.drop k=y::post) (hr1:runR Γ own ops.toList (ops.toList.take k) rvs1 L M=some A1) (hyo:y.op = .call { callee:=.value f,args:=args,argTypes:=ts }) (hyd:y.dst=some d)
 (hg:y.guard=none) (hf:zf2 (evO (fr A1.L) f) = .fn (.yield l) [] []) (hit:zfC (fun x=>zf2 (evO (fr A1.L) x)) args.toList=itp) (hgr:UnL h0 itp it)
 (hr2:∀ b,runR Γ own ops.toList post rvs2 ((d,.bool b)::A1.L) A1.M=some (A2 b)) (hd:zjC N ops.toList=true) (hneck:∀ b,zoC ops (A1.ft++([],[])::(A2 b).ft) k=true)
 (hcs1:AllP A1.cs) (hrq1:RqOk P A1.rq) (hn:AllP (needs (fr A1.L) true y.op.operands.toList)) (hcs2:∀ b,AllP (A2 b).cs) (hrq2:∀ b,RqOk P (A2 b).rq)
 (hitm:∃ q,g=q+1∧items[q]? = some it)
 (K:∀ b g',(g'=bif b then g+1 else 0)→At N (Ci w0 h0 J hJ) (A2 b).L (A2 b).M g' (Q .normal)) (hz:FzOk own (Ci w0 h0 J hJ):=by exact .inl rfl):W P N none (Ci w0 h0 J hJ) (.region id ops true) L M g Q:=by
 intro h ρ a w I
 refine wpIn_region_any E.mixed ?_
 have hlen:k<ops.toList.length:=by
  rcases Nat.lt_or_ge k ops.toList.length with h|h
  · exact h
  · rw [List.drop_eq_nil_of_le h] at hk;cases hk
 have hsplit:ops.toList=ops.toList.take k++y::post:=by rw [← hk,List.take_append_drop]
 have htk:(ops.toList.take k).length=k:=by rw [List.length_take];omega
 have hsize:ops.size=k+(1+post.length):=by
  have:=congrArg List.length hsplit
  rw [List.length_append,htk,List.length_cons] at this
  simp at this;omega
 obtain ⟨rs,T,hft1⟩:=zda (N:=N) E.ty E.depth (ops.toList.take k) rvs1 L M hr1 hcs1.mem hrq1
 have hrl:rs.length=k:=by rw [T.len,htk]
 have hyk:ops[k]? = some y:=by
  rw [← Array.getElem?_toList,hsplit,List.getElem?_append_right (by omega),htk];simp
 have hpost:∀ j,post[j]? = ops[k+1+j]? := fun j=>by
  rw [← Array.getElem?_toList,hsplit,List.getElem?_append_right (by omega),htk,show k+1+j - k=j+1 by omega];simp
 have hmem:∀ o,o∈post→o∈ops.toList:=fun o ho=>by rw [hsplit];simp [ho]
 have hnd:∀ c,y.op ≠ .defer c:=fun c e=>by rw [hyo] at e;cases e
 have hdN:d<N:=zcu hd y (by rw [hsplit];simp) d hyd
 obtain ⟨_,hback,nk1,nk2,_⟩:=zjh (hneck true)
 have hfal:(fun i=>(Array.replicate ops.size false).getD i false)=fun _=>false:=by
  funext i
  by_cases h:i<ops.size <;> simp [h]
 have hcl0:zks ops (fun i=>(Array.replicate ops.size false).getD i false):=by
  intro j o _ hj
  exfalso
  by_cases h:j<ops.size <;> simp [h] at hj
 have e1:∀ (l:List (Option Nat×AV)) (G:Fr) (k:Nat),stF G l (fun _=>false) k=G:=by
  intro l
  induction l with
  | nil=>intros;rfl
  | cons x l ih=>intro G k;obtain ⟨e,u⟩:=x;unfold stF;simp [ih]
 have e2:∀ (l:List (List (Nat×Blk))) (G:Mm) (k:Nat),stM G l (fun _=>false) k=G:=by
  intro l
  induction l with
  | nil=>intros;rfl
  | cons x l ih=>intro G k;unfold stM;simp [ih]
 have e3:∀ n,cnt (fun _=>false) n=n:=by
  intro n
  induction n with
  | zero=>rfl
  | succ n ih=>simp [cnt,ih]
 -- behind the yield
 have fin:∀ (b:Bool) (g':Nat),(g'=bif b then g+1 else 0)→∀ (listed:Array Bool) (h:Hp) (ρ:Rho) (a:Act) (w':World) (x:Value),listed.size=ops.size→(∀ i,i<ops.size→listed.getD i false=decide (i<k+1)) →
  InvH N (Ci w0 h0 J hJ) h ρ (fr A1.L) (mm A1.M) g' a w'→Rel h ρ (.bool b) x→wpAnyIn (Fw none) 1 P .any ops Q post.length listed (a.put y.dst x) w':=by
  intro b g' hg2 listed h ρ a w' x hls hl I' hx
  obtain ⟨rs2,T2,hft2⟩:=zda (N:=N) E.ty E.depth post rvs2 _ _ (hr2 b) (hcs2 b).mem (hrq2 b)
  have hp:=I'.put (d:=y.dst) (fun t ht=>by rw [hyd] at ht;cases ht;exact hdN) hx
  rw [hyd] at hp ⊢
  obtain ⟨hfar,_,_,_,_⟩:=zjh (hneck b)
  refine zpB (C:=Ci w0 h0 J hJ) (g:=g') T2 (k+1) (fun j _=>(hpost j).symm) (by omega) (fts:=A1.ft++([],[])::(A2 b).ft) (fun j r hr=>?_) hfar hback (fun i hi hi2=>by omega) (fun o ho=>zcu hd o (hmem o ho)) hz (fun listed h ρ a w hs hl I=>?_)
   post.length listed h ρ _ w' hls ?_ ?_ (fun i hi=>by rw [hl i (by omega)];simp [hi]) (fun i hi=>?_) ?_
  · rw [List.getElem?_append_right (by rw [hft1,List.length_map];omega),hft1,List.length_map,hrl,show k+1+j - k=j+1 by omega,List.getElem?_cons_succ,hft2,List.getElem?_map,hr];rfl
  · rw [show ops.size - (k+1+post.length)=0 by omega]
    exact ⟨zqx hs (fun i hi=>by rw [hl i hi];simp;omega),K b g' hg2 h ρ a w I⟩
  · rw [zla hl];omega
  · intro j o ho hj e he hb
    have hjs:=(Array.getElem?_eq_some_iff.1 ho).1
    simp only [hl j hjs,decide_eq_true_eq] at hj
    have:=hback j o e ho he hb
    simp only [hl e.on (by omega),decide_eq_true_eq];omega
  · by_cases h:i<ops.size
    · rw [hl i h];simp;omega
    · simp [show ¬ i<listed.size by omega]
  · have hpl:∀ (r:List OpRes) (o:List Oper) (G:Fr) (S:Nat→Bool) (m:Nat),(∀ i,m≤i→i<m+o.length→S i=false)→stF G (dvs o r) S m=G:=by
     intro r o
     induction o generalizing r with
     | nil=>intro G S m _;cases r <;> rfl
     | cons x o ih=>
      intro G S m hS
      cases r with
      | nil=>rfl
      | cons y r=>
       simp only [dvs,stF]
       rw [if_neg (by rw [hS m (Nat.le_refl _) (by simp)];simp)]
       exact ih r G S (m+1) (fun i h1 h2=>hS i (by omega) (by simp;omega))
    have hpm:∀ (r:List (List (Nat×Blk))) (G:Mm) (S:Nat→Bool) (m:Nat),(∀ i,m≤i→i<m+r.length→S i=false)→stM G r S m=G:=by
     intro r
     induction r with
     | nil=>intros;rfl
     | cons y r ih=>
      intro G S m hS
      simp only [stM]
      rw [if_neg (by rw [hS m (Nat.le_refl _) (by simp)];simp)]
      exact ih G S (m+1) (fun i h1 h2=>hS i (by omega) (by simp;omega))
    rw [hpl _ _ _ _ _ (fun i h1 h2=>by rw [hl i (by omega)];simp;omega),hpm _ _ _ _ (fun i h1 h2=>by rw [List.length_map,T2.len] at h2;rw [hl i (by omega)];simp;omega)]
    exact hp
 obtain ⟨hfar,_,_,_,_⟩:=zjh (hneck true)
 refine zpB (C:=Ci w0 h0 J hJ) (g:=g) T 0 (fun j hj=>?_) (by omega) (fts:=A1.ft++([],[])::(A2 true).ft) (fun j r hr=>?_) hfar hback (fun i hi hi2 j hj=>?_) (fun o ho=>zcu hd o (List.mem_of_mem_take ho)) hz (fun listed h ρ a w hs hl I=>?_)
  ops.size _ h ρ a _ (by simp) (by rw [hfal,e3]) hcl0 (fun i hi=>by omega) (fun i hi=>by have:=congrFun hfal i;simpa using this) ?_
 · rw [List.getElem?_take,Nat.zero_add,if_pos (by omega),Array.getElem?_toList]
 · have hj:=(List.getElem?_eq_some_iff.1 hr).1
   rw [Nat.zero_add,List.getElem?_append_left (by rw [hft1,List.length_map];omega),hft1,List.getElem?_map,hr];rfl
 · rw [htk] at hi hj
   rw [Nat.zero_add] at hi ⊢
   by_cases e:i=k
   · subst e;exact nk1 j hj
   · exact .trans (nk1 j hj) (nk2 i (by omega) hi2)
 · rw [htk,Nat.zero_add] at hl ⊢
   rw [show ops.size - k=post.length+1 by omega]
   have hgdd:∀ i,i<ops.size→listed.getD i true=listed.getD i false:=fun i hi=>by
    have:i<listed.size:=by omega
    simp [this]
   refine ⟨fun h0=>?_,fun i hi=>?_⟩
   · exfalso
     have:k∈Region.ready .any ops listed:=mem_ready.2 ⟨by rw [hgdd k (by omega),hl k (by omega)];simp,y,hyk,fun e he hb=>by
      have:=hback k y e hyk he hb
      rw [hl e.on (by omega)];simp [this]⟩
     rw [h0] at this;cases this
   · obtain ⟨h1,o,ho,hdone⟩:=mem_ready.1 hi
     have hin:=(Array.getElem?_eq_some_iff.1 ho).1
     rw [hgdd i hin,hl i hin] at h1
     have hik:i=k:=by
      rcases Nat.lt_or_ge k i with h2|h2
      · exfalso
        have hclk:zks ops (fun i=>listed.getD i false):=by
         intro j o ho hj e he hb
         have hjs:=(Array.getElem?_eq_some_iff.1 ho).1
         simp only [hl j hjs,decide_eq_true_eq] at hj
         have:=hback j o e ho he hb
         simp only [hl e.on (by omega),decide_eq_true_eq];omega
        have anc1:∀ q,Anc ops q i→listed.getD q false=true:=by
         intro q A
         obtain ⟨j,hj⟩:∃ j,j=i:=⟨i,rfl⟩
         rw [← hj] at A
         induction A with
         | edge q1 q2 q3 q4=>subst hj;rw [ho] at q1;cases q1;exact q4▸hdone _ q2 q3
         | trans A1 _ _ ih2=>exact A1.closed hclk (ih2 hj)
        have:=anc1 k (nk2 i h2 hin)
        rw [hl k (by omega)] at this;simp at this
      · have:¬ i<k:=by simpa using h1
        omega
     subst hik
     have hlk:∀ j,j<ops.size→(listed.setIfInBounds i true).getD j false=decide (j<i+1):=by
      intro j hj
      by_cases e:j=i
      · subst e
        have:j<listed.size:=by omega
        simp [this]
      · rw [getD_set_ne false (Ne.symm e),hl j hj]
        congr 1
        exact propext ⟨fun h=>by omega,fun h=>by omega⟩
     unfold wpOpIn
     simp only [hyk]
     have hgs:Region.wanted y (yielded ops a.tmps)=true:=by unfold Region.wanted;rw [hg]
     rw [hgs,if_pos rfl]
     obtain ⟨q,rfl,hq⟩:=hitm
     have hop:∀ z,z∈y.op.operands→Rel h ρ (zf2 (evO (fr A1.L) z)) (a.eval z):=by
      intro z hz
      have h1:=zgf (ops:=ops) (o:=y) I (fun _ _=>rfl) hz
      cases hev:evO (fr A1.L) z <;> rw [hev] at h1 <;> (try exact h1)
      rename_i G v
      have hG:=hn.mem _ (zf6 (W:=true) (by simpa using hz) hev) rfl
      cases h1 with
      | cnd _ _ _ _ ht hf=>exact ht hG
     have hfv:a.eval f = .func (.yield l) #[] #[]:=by
      have h1:=hop f (by rw [hyo];simp [Op.operands,Call.operands])
      rw [hf] at h1
      generalize a.eval f=z at h1
      cases h1 with
      | fn _ _ _ _ vs ws hl hm _ _=>
       have e1:vs=[]:=by simpa using hl
       have e2:ws=[]:=by simpa using hm
       subst e1;subst e2;rfl
     have hargs:RelL h ρ itp (args.toList.map a.eval):=by
      rw [← hit]
      exact zee args.toList (fun z hz=>hop z (zed hyo hz))
     obtain ⟨X,x1,x2,x3⟩:=I.gst
     obtain ⟨fn,tmps,assign,body,hy,hR⟩:=hY q X w it _ x3 hq (hgr.rel hargs)
     refine ⟨fun _ _=>trivial,?_⟩
     have e1:args.map a.eval=(args.toList.map a.eval).toArray:=by apply Array.ext';simp
     rw [Oper.semAt_eq _ _ _ hnd,zi8 hyo hfv,e1,hy]
     refine ⟨fun e=>(by cases e),?_⟩
     refine (zly hR).mono (fun e W' he=>?_)
     obtain ⟨b,rfl,hJ',k1,k2,k3,k4,k5,k6⟩:=he
     refine fin b _ rfl _ h ρ a W' _ (by simp [hs]) hlk ?_ (.bool _ _)
     refine I.zkn x1 x2 k1 k2 k3 k4 k5 k6 ?_
     cases b <;> exact hJ'
 · rw [hfal,e1,e2]
   exact I.drew
theorem W.zpW (E:Env P Γ) {l:Nat} {items:List (List AV)} (hY:Yld P h0 l J items) {id:Nat} {ops:Array Oper} (own:List Nat) (k:Nat) (rvs1 rvs2:List RV) {A1:Acc} {A2:Bool→Acc} {y:Oper} {post:List Oper} {f:Operand} {args:Array Operand} {ts:Array TypeId} {it itp:List AV} {d:Nat}
 (hk:ops.toList.drop k=y::post) (hr1:runR Γ own ops.toList (ops.toList.take k) rvs1 L M=some A1) (hyo:y.op = .call { callee:=.value f,args:=args,argTypes:=ts }) (hyd:y.dst=some d)
 (hg:y.guard=none) (hf:zf2 (evO (fr A1.L) f) = .fn (.yield l) [] []) (hit:zfC (fun x=>zf2 (evO (fr A1.L) x)) args.toList=itp) (hgr:UnL h0 itp it)
 (hr2:∀ b,runR Γ own ops.toList post rvs2 ((d,.bool b)::A1.L) A1.M=some (A2 b)) (hd:zjC N ops.toList=true)
 (hcs1:AllP A1.cs) (hrq1:RqOk P A1.rq) (hn:AllP (needs (fr A1.L) true y.op.operands.toList)) (hcs2:∀ b,AllP (A2 b).cs) (hrq2:∀ b,RqOk P (A2 b).rq)
 (hitm:∃ q,g=q+1∧items[q]? = some it)
 (K:∀ b g',(g'=bif b then g+1 else 0)→At N (Ci w0 h0 J hJ) (A2 b).L (A2 b).M g' (Q .normal)) (hz:FzOk own (Ci w0 h0 J hJ):=by exact .inl rfl):W P N none (Ci w0 h0 J hJ) (.region id ops false) L M g Q:=by
 intro h ρ a w I
 refine wpIn_region ?_
 have hlen:k<ops.toList.length:=by
  rcases Nat.lt_or_ge k ops.toList.length with h|h
  · exact h
  · rw [List.drop_eq_nil_of_le h] at hk;cases hk
 have hsplit:ops.toList=ops.toList.take k++y::post:=by rw [← hk,List.take_append_drop]
 have htk:(ops.toList.take k).length=k:=by rw [List.length_take];omega
 have hsize:ops.size=k+(1+post.length):=by
  have:=congrArg List.length hsplit
  rw [List.length_append,htk,List.length_cons] at this
  simp at this;omega
 have hrange:List.range ops.size=List.range' 0 (ops.toList.take k).length++(k::List.range' (k+1) post.length):=by
  rw [htk,List.range_eq_range',hsize,Nat.add_comm 1,← List.range'_append_1,Nat.zero_add,List.range'_succ]
 rw [hrange]
 obtain ⟨rs,T,_⟩:=zda (N:=N) E.ty E.depth (ops.toList.take k) rvs1 L M hr1 hcs1.mem hrq1
 have hyk:ops[k]? = some y:=by
  rw [← Array.getElem?_toList,hsplit,List.getElem?_append_right (by omega),htk];simp
 have hpost:∀ j,post[j]? = ops[k+1+j]? := fun j=>by
  rw [← Array.getElem?_toList,hsplit,List.getElem?_append_right (by omega),htk,show k+1+j - k=j+1 by omega];simp
 have hmem:∀ o,o∈post→o∈ops.toList:=fun o ho=>by rw [hsplit];simp [ho]
 have hnd:∀ c,y.op ≠ .defer c:=fun c e=>by rw [hyo] at e;cases e
 have hdN:d<N:=zcu hd y (by rw [hsplit];simp) d hyd
 refine T.lexK hz _ (fun h ρ a w I=>?_) 0 h ρ a w I (fun o ho=>zcu hd o (List.mem_of_mem_take ho)) (fun j=>?_)
 rotate_left
 · rw [List.getElem?_take,← Array.getElem?_toList,Nat.zero_add]
   by_cases hj:j<k
   · left;rw [if_pos hj]
   · right;omega
 rw [wpOpsIn_cons]
 unfold wpOpIn
 simp only [hyk]
 have hgs:Region.wanted y (yielded ops a.tmps)=true:=by unfold Region.wanted;rw [hg]
 rw [hgs,if_pos rfl]
 have fin:∀ (b:Bool) (g':Nat),(g'=bif b then g+1 else 0)→∀ (h:Hp) (ρ:Rho) (w':World) (x:Value),InvH N (Ci w0 h0 J hJ) h ρ (fr A1.L) (mm A1.M) g' a w'→Rel h ρ (.bool b) x →
  wpOpsIn (Fw none) 1 P ops Q (List.range' (k+1) post.length) (a.put y.dst x) w':=by
  intro b g' hg2 h ρ w' x I' hx
  obtain ⟨rs2,T2,_⟩:=zda (N:=N) E.ty E.depth post rvs2 _ _ (hr2 b) (hcs2 b).mem (hrq2 b)
  have hp:=I'.put (d:=y.dst) (fun t ht=>by rw [hyd] at ht;cases ht;exact hdN) hx
  rw [hyd] at hp ⊢
  exact T2.lex hz (K b g' hg2) (k+1) h ρ _ w' hp (fun o ho=>zcu hd o (hmem o ho)) (fun j=>.inl (hpost j))
 obtain ⟨q,rfl,hq⟩:=hitm
 have hop:∀ z,z∈y.op.operands→Rel h ρ (zf2 (evO (fr A1.L) z)) (a.eval z):=by
  intro z hz
  have h1:=zgf (ops:=ops) (o:=y) I (fun _ _=>rfl) hz
  cases hev:evO (fr A1.L) z <;> rw [hev] at h1 <;> (try exact h1)
  rename_i G v
  have hG:=hn.mem _ (zf6 (W:=true) (by simpa using hz) hev) rfl
  cases h1 with
  | cnd _ _ _ _ ht hf=>exact ht hG
 have hfv:a.eval f = .func (.yield l) #[] #[]:=by
  have h1:=hop f (by rw [hyo];simp [Op.operands,Call.operands])
  rw [hf] at h1
  generalize a.eval f=z at h1
  cases h1 with
  | fn _ _ _ _ vs ws hl hm _ _=>
   have e1:vs=[]:=by simpa using hl
   have e2:ws=[]:=by simpa using hm
   subst e1;subst e2;rfl
 have hargs:RelL h ρ itp (args.toList.map a.eval):=by
  rw [← hit]
  exact zee args.toList (fun z hz=>hop z (zed hyo hz))
 obtain ⟨X,x1,x2,x3⟩:=I.gst
 obtain ⟨fn,tmps,assign,body,hy,hR⟩:=hY q X w it _ x3 hq (hgr.rel hargs)
 refine ⟨fun _ _=>trivial,?_⟩
 have e1:args.map a.eval=(args.toList.map a.eval).toArray:=by apply Array.ext';simp
 rw [Oper.semAt_eq _ _ _ hnd,zi8 hyo hfv,e1,hy]
 refine ⟨fun e=>(by cases e),?_⟩
 refine (zly hR).mono (fun e W' he=>?_)
 obtain ⟨b,rfl,hJ',k1,k2,k3,k4,k5,k6⟩:=he
 refine fin b _ rfl h ρ W' _ ?_ (.bool _ _)
 refine I.zkn x1 x2 k1 k2 k3 k4 k5 k6 ?_
 cases b <;> exact hJ'
theorem Iter.zp2 {f : FuncId} {fn : Func} {c : Code} {caps : List AV} {items : List (List AV)} (hf : P.funcs[f]? = some fn) (hn : (fn.name == "runtime.NumGoroutine") = false) (hb : fn.body = some c) (hN : fn.ntmps = N) (hx : Nat.ble (caps.length + 1) N = true)
 (H:∀ w0 h0 l J hJ,(∀ b o,h0 b=some o→w0.heap[b]? = some o)→Yld P h0 l J items→W P N none (Ci w0 h0 J hJ) c (argL 0 (.fn (.yield l) [] []::caps.map (.pin h0))) [] 1 (zqB P fn J items.length)):Iter P f caps items:=by
 refine ⟨enters_of hf hn hb,fun h w vs hR hp l J hJ hY h1=>?_⟩
 refine zc4 (n:=1) (callsIn_of_wp_marks hf hb trivial ?_)
 refine H w h l J hJ hp hY h ρ0 _ w ?_
 have hR1:RelL h ρ0 (caps.map (.pin h)) vs:=⟨by rw [hR.1,List.length_map],fun i c v h1 h2=>by
  rw [List.getElem?_map] at h1
  cases hc:caps[i]? with
  | none=>rw [hc] at h1;cases h1
  | some c0=>rw [hc] at h1;cases h1;exact .pin _ _ _ _ (Le.refl h) (hR.2 i c0 v hc h2)⟩
 have hR':RelL h ρ0 (.fn (.yield l) [] []::caps.map (.pin h)) (Value.func (.yield l) #[] #[]::vs):=RelL.cons (.fn _ _ _ _ [] [] rfl rfl (fun i c v hc=>by simp at hc) (fun i c v hc=>by simp at hc)) hR1
 have hlen:(Value.func (.yield l) #[] #[]::vs).length≤N:=by rw [hR'.1];simpa using Nat.le_of_ble_eq_true hx
 generalize Value.func (.yield l) #[] #[]::vs=us at hR' hlen
 refine ⟨fun t=>?_,⟨rfl,fun i c v h1=>by simp [Ci] at h1⟩,?_,hp,fun id x hx=>(by cases hx),fun _ _=>rfl,fun id li b h1=>(by cases h1),fun id id' li li' b h1=>(by cases h1),rfl,rfl,rfl,Nat.le_refl _,fun _ _ _=>rfl,fun b o hb=>hb,fun b o hb _=>hb,
  ⟨fun _=>False,fun b ⟨id,li,q,_⟩=>(by cases q),fun b o hb=>.inl hb,h1⟩,⟨[],rfl,List.nodup_nil,fun D hD=>(by cases hD)⟩⟩
 · rcases zhU (h:=h) (ρ:=ρ0) 0 hR' t with e|⟨i,u,e1,e2,e3⟩
   · rw [e];exact .any _ _
   · have e0:t=i:=by omega
     subst e0
     have hi:t<us.length:=(List.getElem?_eq_some_iff.1 e2).1
     have:(us.toArray++Array.replicate (fn.ntmps - us.toArray.size) undef).getD t undef=u:=by
      have e4:us[t]=u:=by have:=List.getElem?_eq_getElem hi;rw [this] at e2;exact Option.some.inj e2
      simp [Array.getElem?_append,hi,e4]
     rw [this]
     exact e3
 · simp [hN] at hlen ⊢;omega
end
end Go.Av
end
/- The statement that ranges over a function. -/
section
set_option linter.all false
namespace Go.Av
open Go.Sp
def Cr (w0:World) (h0:Hp) (br:Nat→Prop) (avs:List AV) (vs:List Value) (gh:(Nat→Prop)→World→Prop) (st:Stab gh):Ctx:={ w0:=w0,h0:=h0,savA:=avs,savV:=vs,bor:=br,gh:=fun _=>gh,gh_step:=fun _ X X' w w'=>st X X' w w' }
def Still (Z:Nat→Prop) (V:Nat→Option Obj) (n:Nat) (Y:Nat→Prop) (w:World):Prop:=(∀ b,Z b→b<n∧¬ Y b∧w.heap[b]? = V b)∧n≤w.heap.size
theorem Still.stab (Z:Nat→Prop) (V:Nat→Option Obj) (n:Nat):Stab (Still Z V n):=by
 intro X X' w w' H _ _ _ hsz hk hX
 refine ⟨fun b hb=>?_,Nat.le_trans H.2 hsz⟩
 obtain ⟨h1,h2,h3⟩:=H.1 b hb
 have hlt:b<w.heap.size:=Nat.lt_of_lt_of_le h1 H.2
 refine ⟨h1,fun h=>?_,by rw [hk b hlt h2];exact h3⟩
 rcases hX b h with h4|h4
 · exact h2 h4
 · omega
def zipT:List Nat→List AV→List (Nat×AV)
 | t::ts,v::vs=>(t,v)::zipT ts vs
 | _,_=>[]
def zpE (N:Nat):List Nat→Bool
 | []=>true
 | t::ts=>match Nat.blt t N with
  | true=>zpE N ts
  | false=>false
theorem zkl {N:Nat}:∀ {ts:List Nat},zpE N ts=true→∀ t,t∈ts→t<N
 | [],_,t,ht=>by cases ht
 | x::ts,h,t,ht=>by
  unfold zpE at h
  split at h
  · rename_i hb
    rcases List.mem_cons.1 ht with rfl|ht
    · exact Nat.le_of_ble_eq_true hb
    · exact zkl h t ht
  · cases h
def zdC:List (Nat×AV)→List AV
 | []=>[]
 | (_,v)::r=>v::zdC r
theorem znG (f:Nat→Value):∀ (L:List (Nat×AV)),(L.map (fun p=>f p.1)).length=(zdC L).length∧∀ t:Nat,fr L t = .any∨∃ i:Nat,(zdC L)[i]? = some (fr L t)∧(L.map (fun p=>f p.1))[i]? = some (f t)
 | []=>⟨rfl,fun t=>.inl rfl⟩
 | (d,v)::r=>by
  obtain ⟨h1,h2⟩:=znG f r
  refine ⟨by simp [zdC] at h1 ⊢;exact h1,fun t=>?_⟩
  simp only [fr,put,zdC]
  split
  · rename_i hb
    have:=Nat.eq_of_beq_eq_true hb
    subst this
    exact .inr ⟨0,rfl,rfl⟩
  · rcases h2 t with h|⟨i,q1,q2⟩
    · exact .inl h
    · exact .inr ⟨i+1,by simpa using q1,by simpa using q2⟩
theorem zlm {N:Nat} {h:Hp} {ρ:Rho}:∀ (ps:List Nat) (it:List AV) (us:List Value) (tm:Array Value) (F:Fr),RelL h ρ it us→it.length=ps.length→(∀ t,t∈ps→t<N)→tm.size=N→ps.Nodup→(∀ t,Rel h ρ (F t) (tm.getD t undef)) →
 ((ps.zip us).foldl (fun (tm:Array Value) (x:Nat×Value)=>tm.setIfInBounds x.1 x.2) tm).size=N∧∀ t,Rel h ρ (match zgS (zipT ps it) t with|some v=>v|none=>F t) (((ps.zip us).foldl (fun (tm:Array Value) (x:Nat×Value)=>tm.setIfInBounds x.1 x.2) tm).getD t undef)
 | [],it,us,tm,F,hR,hl,_,hs,_,hF=>by
  have:it=[]:=by simpa using hl
  subst this
  exact ⟨by simpa using hs,fun t=>by simpa [zipT,zgS] using hF t⟩
 | p::ps,it,us,tm,F,hR,hl,hN,hs,hnd,hF=>by
  cases it with
  | nil=>simp at hl
  | cons v it=>
  obtain ⟨u,r,rfl,h1,h2⟩:=hR.zdP
  have hp:p<N:=hN p (by simp)
  have key:=zlm ps it r (tm.setIfInBounds p u) (put F p v) h2 (by simpa using hl) (fun t ht=>hN t (by simp [ht])) (by simpa using hs) (List.nodup_cons.1 hnd).2 (fun t=>by
   by_cases ht:t=p
   · subst ht
     rw [zfw]
     simpa [hs,hp] using h1
   · rw [zfe F v ht]
     have:=hF t
     simpa [Array.getElem?_setIfInBounds_ne (Ne.symm ht)] using this)
  refine ⟨by simpa using key.1,fun t=>?_⟩
  have k2:=key.2 t
  simp only [List.zip_cons_cons,List.foldl_cons,zipT,zgS]
  cases hb:Nat.beq t p with
  | true=>
   have e:=Nat.eq_of_beq_eq_true hb
   subst e
   have hno:zgS (zipT ps it) t=none:=by
    have hnp:=(List.nodup_cons.1 hnd).1
    clear key k2 hl h2 hN hs hF hR h1 hnd
    induction ps generalizing it with
    | nil=>cases it <;> rfl
    | cons q qs ih=>
     cases it with
     | nil=>rfl
     | cons x xs=>
      simp only [zipT,zgS]
      have:Nat.beq t q=false:=by
       cases hq:Nat.beq t q with
       | false=>rfl
       | true=>exact absurd (Nat.eq_of_beq_eq_true hq) (fun e=>hnp (by simp [e]))
      rw [this]
      exact ih xs (fun h=>hnp (by simp [h]))
   rw [hno] at k2
   simpa [zfw] using k2
  | false=>
   have hne:t≠p:=by rintro rfl;simp at hb
   simp only [zfe F v hne] at k2
   exact k2
theorem zqG:∀ (ps:List Nat) (it:List AV) (L:List (Nat×AV)) (t:Nat),fr (zipT ps it++L) t=match zgS (zipT ps it) t with|some v=>v|none=>fr L t
 | [],it,L,t=>by simp [zipT,zgS]
 | p::ps,[],L,t=>by simp [zipT,zgS]
 | p::ps,v::it,L,t=>by
  simp only [zipT,List.cons_append,fr,put,zgS]
  cases hb:Nat.beq t p with
  | true=>rfl
  | false=>simp only [];exact zqG ps it L t
def zhy:List Nat→Bool
 | []=>true
 | t::ts=>match zbf ts t with
  | true=>false
  | false=>zhy ts
theorem zeH {t:Nat}:∀ {ts:List Nat},t∈ts→zbf ts t=true
 | x::ts,h=>by
  unfold zbf
  rcases List.mem_cons.1 h with rfl|h
  · simp
  · split
    · rfl
    · exact zeH h
theorem zg9:∀ {ts:List Nat},zhy ts=true→ts.Nodup
 | [],_=>List.nodup_nil
 | t::ts,h=>by
  unfold zhy at h
  split at h
  · cases h
  · rename_i hb
    refine List.nodup_cons.2 ⟨fun hm=>?_,zg9 h⟩
    rw [zeH hm] at hb;cases hb
def zns:Exit→Code
 | .exit i=>.exit i
 | _=>.ret
section
variable {P:Program} {N:Nat} {Γ:Tys} {L:List (Nat×AV)} {M:List (Nat×Blk)} {g:Nat} {Q:Exit→Act→World→Prop} {w0:World} {h0:Hp} {SA:List AV} {SV:List Value} {br:Nat→Prop}
theorem InvH.reframe {br:Nat→Prop} {avs:List AV} {vs:List Value} {gh gh':(Nat→Prop)→World→Prop} {st:Stab gh} {st':Stab gh'} {h1 h:Hp} {ρ:Rho} {F F':Fr} {Mx:Mm} {a a':Act} {w w':World} (I:InvH N (Cr w0 h1 br avs vs gh st) h ρ F Mx g a w) (hs:∀ t,Rel h ρ (F' t) (a'.tmps.getD t undef)) (hN:a'.tmps.size=N) (hd:∃ Ds:List Nat,a'.defers=Ds.map (fun D=>{ target:=.collected D,args:=#[] })∧Ds.Nodup∧∀ D,D∈Ds→h D=some (.deferred (some []))∧w0.heap.size≤D)
 {Z:Nat→Prop} (hZ:∀ b,Z b→h b=none∧¬ zcw ρ b∧w0.heap.size≤b) (hos:w'.os=w.os) (htape:w'.tape=w.tape) (hout:w'.output=w.output) (hsz:w.heap.size≤w'.heap.size) (hk:∀ k,k<w.heap.size→¬ Z k→w'.heap[k]? = w.heap[k]?)
 (hg:∃ X:Nat→Prop,(∀ b,zcw ρ b→X b)∧(∀ b o,h b=some o→h1 b=some o∨X b)∧gh' X w'):InvH N (Cr w0 h1 br avs vs gh' st') h ρ F' Mx g a' w':=by
 refine ⟨hs,I.sav,hN,fun b o hb=>?_,fun id x hx=>?_,I.dom,fun id li b q1 q2=>?_,I.inj,hos.trans I.os,htape.trans I.tape,hout.trans I.out,Nat.le_trans I.sz hsz,fun k hk0 hb=>?_,I.ext,I.old,hg,hd⟩
 · rw [hk b (I.hlt hb) (fun hz=>by rw [(hZ b hz).1] at hb;cases hb)];exact I.hp b o hb
 · exact (I.blk id x hx).keep (Le.refl h) rfl (zcU _) (fun li b q1 q2=>hk b (I.own id li b q1 q2).2.1 (fun hz=>(hZ b hz).2.1 ⟨id,li,q1,q2⟩))
 · obtain ⟨q3,q4,q5⟩:=I.own id li b q1 q2
   exact ⟨q3,Nat.lt_of_lt_of_le q4 hsz,q5⟩
 · rw [hk k (Nat.lt_of_lt_of_le hk0 I.sz) (fun hz=>by have:=(hZ k hz).2.2;exact absurd hk0 (Nat.not_lt.2 this))]
   exact I.kept k hk0 hb
theorem W.rangeFunc {fop:Operand} {ps:Array Tmp} {assign body:Code} {gf:FuncId} {caps:List AV} {items:List (List AV)}
 (hf:evO (fr L) fop = .clo (.func gf) [] caps) (hI:Iter P gf caps items) (hit:∀ it,it∈items→it.length=ps.size) (hpN:zpE N ps.toList=true) (hpd:zhy ps.toList=true) (hLd:zhy (L.map (·.1))=true)
 {S:Type} (J:Nat→S→Prop) (Ms:S→List (Nat×Blk)) (s0:S) (hJ0:J 0 s0) (hM:AgreeM M (Ms s0)) (La:Nat→List (Nat×AV)) (Ma:Nat→S→List (Nat×Blk))
 {SX:Type} (JX:Exit→SX→Prop) (MX:Exit→SX→List (Nat×Blk)) (hX:∀ e s,JX e s→e = .ret∨∃ i,e = .exit i) (hval:∀ b o,h0 b=some o→w0.heap[b]? = some o)
 (asg:∀ (h1:Hp) (vs:List Value) (gh:(Nat→Prop)→World→Prop) (st:Stab gh) (l:Nat) (k:Nat) (it:List AV) (s:S),items[k]? = some it→∀ K:Act→World→Prop,At N (Cr w0 h1 br (zdC L++SA) vs gh st) (La k) (Ma k s) g K →
  W P N (some l) (Cr w0 h1 br (zdC L++SA) vs gh st) assign (zipT ps.toList it++L) (Ms s) g (Exit.then K (fun _ _ _=>False)))
 (round:∀ (h1:Hp) (vs:List Value) (gh:(Nat→Prop)→World→Prop) (st:Stab gh) (l:Nat) (k:Nat) (it:List AV) (s:S),items[k]? = some it→J k s→∀ Qr:Exit→Act→World→Prop,
  (∀ s',J (k+1) s'→At N (Cr w0 h1 br (zdC L++SA) vs gh st) [] (Ms s') g (Qr .normal))→(∀ e s',JX e s'→At N (Cr w0 h1 br (zdC L++SA) vs gh st) [] (MX e s') g (Qr e)) →
  W P N (some l) (Cr w0 h1 br (zdC L++SA) vs gh st) body (La k) (Ma k s) g Qr)
 (done:∀ s,J items.length s→At N (Cq w0 h0 SA SV br) L (Ms s) g (Q .normal)) (left:∀ e s,JX e s→At N (Cq w0 h0 SA SV br) L (MX e s) g (Q e)):W P N none (Cq w0 h0 SA SV br) (.rangeFunc fop ps assign body) L M g Q:=by
 refine At.zbb hM ?_
 intro h ρ a w I
 refine wpIn_rangeFunc ?_
 intro fn hfn
 -- the function,and its contract
 have hfv:∃ ws:List Value,a.eval fop = .func (.func gf) #[] ws.toArray∧RelL h ρ0 caps ws:=by
  have h1:Rel h ρ (evO (fr L) fop) (a.eval fop):=by
   cases fop with
   | tmp t=>exact I.slot t
   | const v=>exact Rel.ze3 h ρ v
   | func f=>exact .fn _ _ _ _ [] [] rfl rfl (fun i c v hc=>by simp at hc) (fun i c v hc=>by simp at hc)
   | global g=>exact .any _ _
  rw [hf] at h1
  generalize a.eval fop=z at h1
  cases h1 with
  | clo _ _ _ _ _ h2=>
  cases h2 with
  | fn _ _ _ _ us ws hl hm _ hd=>
   have e1:us=[]:=by simpa using hl
   subst e1
   exact ⟨ws,rfl,hm,hd⟩
 obtain ⟨ws,hev,hws⟩:=hfv
 obtain ⟨rec,hrec⟩:∃ rec:LoopState→Option Code→Loop,rec=fun st pe=>{ state:=st,pending:=pe,fn,tmps:=a.tmps,params:=ps,assign,body,defers:=w.heap.size }:=⟨_,rfl⟩
 obtain ⟨W1,hW1⟩:∃ W1,(w.alloc (.deferred (some []))).alloc (.loop (rec .ready none))=W1:=⟨_,rfl⟩
 have hL1:W1.heap[w.heap.size+1]? = some (.loop (rec .ready none)):=by
  rw [← hW1];have:=World.alloc_heap_new (w.alloc (.deferred (some []))) (.loop (rec .ready none));rwa [World.size_alloc] at this
 have hK1:W1.heap[w.heap.size]? = some (.deferred (some [])):=by
  rw [← hW1];exact (RowKit.Below.heap_alloc _ _ _ (by simp)).trans (World.alloc_heap_new w _)
 have hS1:W1.heap.size=w.heap.size+2:=by rw [← hW1];simp
 have hB1:RowKit.Below w.heap.size w W1:=by
  rw [← hW1];exact ((((RowKit.Below.refl _ w).alloc (Nat.le_refl _) _).alloc (by simp) _))
 obtain ⟨D,hD⟩:∃ D,w.heap.size=D:=⟨_,rfl⟩
 have hnod:∀ {h':Hp},∃ Ds:List Nat,([]:List Deferred)=Ds.map (fun D=>{ target:=.collected D,args:=#[] })∧Ds.Nodup∧∀ D,D∈Ds→h' D=some (.deferred (some []))∧w0.heap.size≤D:=fun {h'}=>⟨[],rfl,List.nodup_nil,fun D hD=>(by cases hD)⟩
 have hlt0:∀ b o,h b=some o→b<D:=fun b o hb=>by rw [← hD];exact I.hlt hb
 obtain ⟨vs0,hvs⟩:∃ vs,L.map (fun p=>a.tmps.getD p.1 undef)=vs:=⟨_,rfl⟩
 obtain ⟨hav1,hav2⟩:=znG (fun t=>a.tmps.getD t undef) L
 rw [hvs] at hav1 hav2
 obtain ⟨vs,hvs2⟩:∃ vs,vs0++SV=vs:=⟨_,rfl⟩
 have hsv:SV.length=SA.length:=I.sav.1
 have hsz0:w0.heap.size≤D:=by rw [← hD];exact I.sz
 have slotL:∀ {h':Hp} {ρ':Rho},(vs.length=(zdC L++SA).length∧∀ (i:Nat) (c:AV) (v:Value),(zdC L++SA)[i]? = some c→vs[i]? = some v→Rel h' ρ' c v)→∀ t,Rel h' ρ' (fr L t) (a.tmps.getD t undef):=fun hs t=>by
  rcases hav2 t with e|⟨i,q1,q2⟩
  · rw [e];exact .any _ _
  · refine hs.2 i _ _ ?_ ?_
    · rw [List.getElem?_append_left (List.getElem?_eq_some_iff.1 q1).1];exact q1
    · rw [← hvs2,List.getElem?_append_left (List.getElem?_eq_some_iff.1 q2).1];exact q2
 have slotS:∀ {h':Hp} {ρ':Rho},(vs.length=(zdC L++SA).length∧∀ (i:Nat) (c:AV) (v:Value),(zdC L++SA)[i]? = some c→vs[i]? = some v→Rel h' ρ' c v)→∀ (i:Nat) (c:AV) (v:Value),SA[i]? = some c→SV[i]? = some v→Rel h' ρ' c v:=fun hs i c v h1 h2=>by
  refine hs.2 ((zdC L).length+i) _ _ ?_ ?_
  · rw [List.getElem?_append_right (Nat.le_add_right _ _),Nat.add_sub_cancel_left];exact h1
  · rw [← hvs2,← hav1,List.getElem?_append_right (Nat.le_add_right _ _),Nat.add_sub_cancel_left];exact h2
 let T:(Nat→Prop)→World→Prop:=fun _ _=>True
 have sT:Stab T:=fun _ _ _ _ _ _ _ _ _ _ _=>trivial
 -- the caller between two rounds,while the iterator holds X
 let MidP:List (Nat×Blk)→(Nat→Prop)→World→Prop:=fun Mx X Wd=>(∃ h' ρ' a0,a0.defers=[]∧InvH N (Cr w0 h br (zdC L++SA) vs T sT) h' ρ' (fr []) (mm Mx) g a0 Wd∧∀ b,(X b∨b=D∨b=D+1)→h' b=none∧¬ zcw ρ' b)∧Wd.heap[D]? = some (.deferred (some []))∧W1.heap.size≤Wd.heap.size∧∀ b,X b→W1.heap.size≤b
 let Jf:Nat→(Nat→Prop)→World→Prop:=fun k X Wd=>match k with
  | 0=>∃ e s,JX e s∧MidP (MX e s) X Wd∧Wd.heap[D+1]? = some (.loop (rec .done (some (zns e))))
  | k+1=>∃ s,J k s∧MidP (Ms s) X Wd∧Wd.heap[D+1]? = some (.loop (rec .ready none))
 have midStab:∀ Mx (o:Obj),Stab (fun X Wd=>MidP Mx X Wd∧Wd.heap[D+1]? = some o):=by
  rintro Mx o X X' wd wd' ⟨⟨⟨h',ρ',a0,hd0,I0,hZ⟩,m1,m2,m3⟩,m4⟩ hos htape hout hsz hk hX'
  have hDX:¬ X D:=fun hx=>by have:=m3 D hx;omega
  have hDX':¬ X (D+1):=fun hx=>by have:=m3 _ hx;omega
  refine ⟨⟨⟨h',ρ',a0,hd0,I0.reframe (Z:=X) I0.slot I0.size (by rw [hd0];exact hnod) (fun b hb=>⟨(hZ b (.inl hb)).1,(hZ b (.inl hb)).2,by have:=m3 b hb;omega⟩) hos htape hout hsz hk ⟨fun _=>True,fun _ _=>trivial,fun _ _ _=>.inr trivial,trivial⟩,fun b hb=>?_⟩,?_,Nat.le_trans m2 hsz,fun b hb=>?_⟩,?_⟩
  · rcases hb with hb|hb
    · rcases hX' b hb with h2|h2
      · exact hZ b (.inl h2)
      · refine ⟨?_,fun ⟨id,li,q1,q2⟩=>?_⟩
        · cases ho:h' b with
          | none=>rfl
          | some o=>have:=I0.hlt ho;omega
        · have:=(I0.own id li b q1 q2).2.1;omega
    · exact hZ b (.inr hb)
  · rw [hk D (by omega) hDX];exact m1
  · rcases hX' b hb with h2|h2
    · exact m3 b h2
    · omega
  · rw [hk _ (by omega) hDX'];exact m4
 have hstab:∀ k,Stab (Jf k):=by
  intro k X X' wd wd' H hos htape hout hsz hk hX'
  cases k with
  | zero=>
   obtain ⟨e,s,q1,q2⟩:=H
   exact ⟨e,s,q1,midStab _ _ X X' wd wd' q2 hos htape hout hsz hk hX'⟩
  | succ k=>
   obtain ⟨s,q1,q2⟩:=H
   exact ⟨s,q1,midStab _ _ X X' wd wd' q2 hos htape hout hsz hk hX'⟩
 have hyld:Yld P h (D+1) Jf items:=by
  rintro k X W it us ⟨s,hJ,⟨⟨h',ρ',a0,hd0,I0,hZ⟩,m1,m2,m3⟩,hl⟩ hitk hus
  have hitl:=hit it (List.mem_of_getElem? hitk)
  have hsz2:us.toArray.size=ps.size:=by simp only [List.size_toArray];rw [hus.1,hitl]
  have hy:=run_yield (P:=P) (args:=us.toArray) hl (by rw [hrec];exact hsz2)
  rw [hrec] at hy
  refine ⟨fn,_,assign,body,hy,roundIn_of_wpIn (F:=Fw none) (n:=1) trivial ?_⟩
  have hfold:(ps.zip us.toArray).foldl (fun tmps (x:Nat×Value)=>tmps.setIfInBounds x.1 x.2) a.tmps=((ps.toList.zip us).foldl (fun (tm:Array Value) (x:Nat×Value)=>tm.setIfInBounds x.1 x.2) a.tmps):=by
   rw [← Array.foldl_toList,Array.toList_zip]
  obtain ⟨z1,z2⟩:=zlm ps.toList it us a.tmps (fr L) ((RelL.heap hus (Le.of I0.ext)).closed) (by simpa using hitl) (fun t ht=>zkl hpN t ht) I.size (zg9 hpd) (slotL I0.sav)
  rw [← hfold] at z1 z2
  obtain ⟨Z,hZd⟩:∃ Z:Nat→Prop,Z=fun b=>(X b∧b<W.heap.size)∨b=D∨b=D+1:=⟨_,rfl⟩
  have hZlt:∀ b,Z b→b<W.heap.size∧D≤b:=fun b hb=>by
   rw [hZd] at hb
   rcases hb with hb|hb
   · exact ⟨hb.2,by have:=m3 b hb.1;omega⟩
   · exact ⟨by omega,by omega⟩
  have hZ':∀ b,Z b→h' b=none∧¬ zcw ρ' b:=fun b hb=>by
   rw [hZd] at hb
   exact hZ b (hb.imp (fun h=>h.1) (fun h=>h))
  have still0:∀ (h2:Hp) (ρ2:Rho),(∀ b,Z b→h2 b=none∧¬ zcw ρ2 b)→∀ (V:Nat→Option Obj) (w2:World),W.heap.size≤w2.heap.size→(∀ b,Z b→w2.heap[b]? = V b)→∃ Y:Nat→Prop,(∀ b,zcw ρ2 b→Y b)∧(∀ b o,h2 b=some o→h b=some o∨Y b)∧Still Z V W.heap.size Y w2:=
   fun h2 ρ2 hz V w2 hsz hv=>⟨fun b=>¬ Z b,fun b hb hzb=>(hz b hzb).2 hb,fun b o hb=>.inr (fun hzb=>by rw [(hz b hzb).1] at hb;cases hb),fun b hb=>⟨(hZlt b hb).1,fun hn=>hn hb,hv b hb⟩,hsz⟩
  have free:∀ {gh:(Nat→Prop)→World→Prop} {st:Stab gh} {V:Nat→Option Obj} {h2:Hp} {ρ2:Rho} {F2:Fr} {M2:Mm} {a2:Act} {w2:World},InvH N (Cr w0 h br (zdC L++SA) vs (Still Z V W.heap.size) (Still.stab _ _ _)) h2 ρ2 F2 M2 g a2 w2→(∀ b,Z b→h2 b=none∧¬ zcw ρ2 b)∧(∀ b,Z b→w2.heap[b]? = V b)∧W.heap.size≤w2.heap.size:=
   fun {gh st V h2 ρ2 F2 M2 a2 w2} I2=>by
    obtain ⟨Y,y1,y2,y3⟩:=I2.gst
    refine ⟨fun b hb=>⟨?_,fun ho=>(y3.1 b hb).2.1 (y1 b ho)⟩,fun b hb=>(y3.1 b hb).2.2,y3.2⟩
    cases ho:h2 b with
    | none=>rfl
    | some o=>
     rcases y2 b o ho with h3|h3
     · have:=hlt0 b o h3;have:=(hZlt b hb).2;omega
     · exact absurd h3 (y3.1 b hb).2.1
  have hlast:∀ b,Z b→b≠D+1→(X b∧b<W.heap.size)∨b=D:=fun b hb hne=>by
   rw [hZd] at hb
   rcases hb with hb|hb|hb
   · exact .inl hb
   · exact .inr hb
   · exact absurd hb hne
  have zD:Z D:=by rw [hZd];exact .inr (.inl rfl)
  have zD1:Z (D+1):=by rw [hZd];exact .inr (.inr rfl)
  refine asg h vs (Still Z (fun b=>W.heap[b]?) W.heap.size) (Still.stab _ _ _) (D+1) k it s hitk _ (fun h2 ρ2 a1 w1 I2=>?_) h' ρ' _ W
   (I0.reframe (Z:=fun _=>False) (a':={ tmps:=(ps.zip us.toArray).foldl (fun tmps (x:Nat×Value)=>tmps.setIfInBounds x.1 x.2) a.tmps,defers:=[] }) (fun t=>by rw [zqG];exact z2 t) z1 hnod (fun b hb=>hb.elim) rfl rfl rfl (Nat.le_refl _) (fun _ _ _=>rfl) (still0 h' ρ' hZ' _ W (Nat.le_refl _) (fun b hb=>rfl)))
  obtain ⟨f1,f2,f3⟩:=free (gh:=T) (st:=sT) I2
  have hl1:w1.heap[D+1]? = some (.loop (rec .ready none)):=(f2 _ zD1).trans hl
  have hbr:=run_beginRound (P:=P) hl1 (by rw [hrec])
  refine ⟨_,hbr,?_⟩
  have hlt1:D+1<w1.heap.size:=(Array.getElem?_eq_some_iff.1 hl1).1
  have hl2:(w1.putObj (D+1) (.loop { rec .ready none with state:=.busy })).heap[D+1]? = some (.loop { rec .ready none with state:=.busy }):=World.putObj_heap_same hlt1
  refine round h vs (Still Z (fun b=>if b=D+1 then some (.loop { rec .ready none with state:=.busy }) else W.heap[b]?) W.heap.size) (Still.stab _ _ _) (D+1) k it s hitk hJ _ (fun s' hJ' h3 ρ3 a3 w3 I3=>?_) (fun e s' hJX h3 ρ3 a3 w3 I3=>?_) h2 ρ2 a1 _
   (I2.reframe (Z:=fun b=>b=D+1) I2.slot I2.size I2.dfr (fun b hb=>by subst hb;exact ⟨(f1 _ zD1).1,(f1 _ zD1).2,by omega⟩) rfl rfl rfl (by simp) (fun kk _ hkk=>World.putObj_heap_other hkk) (still0 h2 ρ2 f1 _ _ (by simpa using f3) (fun b hb=>by
    by_cases hbe:b=D+1
    · subst hbe;rw [if_pos rfl];exact hl2
    · rw [if_neg hbe,World.putObj_heap_other hbe];exact f2 b hb)))
  all_goals
   obtain ⟨p1,p2,p3⟩:=free (gh:=T) (st:=sT) I3
   have hl3:w3.heap[D+1]? = some (.loop { rec .ready none with state:=.busy }):=by have:=p2 _ zD1;rw [if_pos rfl] at this;exact this
   have hlt3:D+1<w3.heap.size:=(Array.getElem?_eq_some_iff.1 hl3).1
   have mid:∀ (Mx:List (Nat×Blk)),InvH N (Cr w0 h br (zdC L++SA) vs (Still Z (fun b=>if b=D+1 then some (.loop { rec .ready none with state:=.busy }) else W.heap[b]?) W.heap.size) (Still.stab _ _ _)) h3 ρ3 (fr []) (mm Mx) g a3 w3→∀ o,MidP Mx (fun b=>X b∧b<W.heap.size) (w3.putObj (D+1) o):=fun Mx I3 o=>
    ⟨⟨h3,ρ3,{ a3 with defers:=[] },rfl,I3.reframe (Z:=fun b=>b=D+1) (fun t=>.any _ _) I3.size hnod (fun b hb=>by subst hb;exact ⟨(p1 _ zD1).1,(p1 _ zD1).2,by omega⟩) rfl rfl rfl (by simp) (fun kk _ hkk=>World.putObj_heap_other hkk) ⟨fun _=>True,fun _ _=>trivial,fun _ _ _=>.inr trivial,trivial⟩,
     fun b hb=>p1 b (by rw [hZd];exact hb)⟩,by
      rw [World.putObj_heap_other (by omega)]
      have:=p2 _ zD;rw [if_neg (by omega)] at this
      exact this.trans m1,by simp;omega,fun b hb=>m3 b hb.1⟩
   have kept:∀ o,zmf h X W (fun _ _=>True) (.returned (.bool true)) (w3.putObj (D+1) o):=fun o=>
    ⟨true,rfl,trivial,I3.os.trans I0.os.symm,I3.tape.trans I0.tape.symm,I3.out.trans I0.out.symm,by simpa using p3,fun kk hkk hX=>by
     have hne:kk≠D+1:=fun e=>by have:=m3 kk hX;omega
     rw [World.putObj_heap_other hne]
     have:=p2 kk (by rw [hZd];exact .inl ⟨hX,hkk⟩)
     rw [if_neg hne] at this
     exact this,fun kk o' hk'=>by
     have:=hlt0 kk o' hk'
     rw [World.putObj_heap_other (by omega)]
     exact I3.hp kk o' (I3.ext kk o' hk')⟩
  · have hr:=run_endRound (P:=P) none hl3
    refine ⟨_,_,hr,?_⟩
    obtain ⟨_,_,_,k1,k2,k3,k4,k5,k6⟩:=kept (.loop { ({ rec .ready none with state:=.busy }:Loop) with state:=.ready,pending:=none })
    refine ⟨true,rfl,⟨s',hJ',mid _ I3 _,?_⟩,k1,k2,k3,k4,k5,k6⟩
    rw [World.putObj_heap_same hlt3,hrec];rfl
  · rcases hX e s' hJX with rfl|⟨i,rfl⟩
    · have hr:=run_endRound (P:=P) (some .ret) hl3
      refine ⟨_,_,hr,?_⟩
      obtain ⟨_,_,_,k1,k2,k3,k4,k5,k6⟩:=kept (.loop { ({ rec .ready none with state:=.busy }:Loop) with state:=.done,pending:=some .ret })
      refine ⟨false,rfl,⟨.ret,s',hJX,mid _ I3 _,?_⟩,k1,k2,k3,k4,k5,k6⟩
      rw [World.putObj_heap_same hlt3,hrec];rfl
    · have hr:=run_endRound (P:=P) (some (.exit i)) hl3
      refine ⟨_,_,hr,?_⟩
      obtain ⟨_,_,_,k1,k2,k3,k4,k5,k6⟩:=kept (.loop { ({ rec .ready none with state:=.busy }:Loop) with state:=.done,pending:=some (.exit i) })
      refine ⟨false,rfl,⟨.exit i,s',hJX,mid _ I3 _,?_⟩,k1,k2,k3,k4,k5,k6⟩
      rw [World.putObj_heap_same hlt3,hrec];rfl
 -- the way back
 have back:∀ (Mx:List (Nat×Blk)) (X:Nat→Prop) (W:World) (o0 o1:Obj),MidP Mx X W→W.heap[D+1]? = some o0→∃ h' ρ',InvH N (Cq w0 h0 SA SV br) h' ρ' (fr L) (mm Mx) g { a with defers:=[{ target:=.collected D,args:=#[] }]++a.defers } (W.putObj (D+1) o1):=by
  rintro Mx X W o0 o1 ⟨⟨h',ρ',a0,hd0,I0,hZ⟩,m1,m2,m3⟩ hl
  have hlt:D+1<W.heap.size:=(Array.getElem?_eq_some_iff.1 hl).1
  obtain ⟨hz1,hz2⟩:=hZ D (.inr (.inl rfl))
  obtain ⟨hy1,hy2⟩:=hZ (D+1) (.inr (.inr rfl))
  have hle:∀ b o,h' b=some o→upd h' D (some (.deferred (some []))) b=some o:=fun b o hb=>by
   rw [zae _ _ (fun e=>by subst e;rw [hz1] at hb;cases hb)];exact hb
  refine ⟨upd h' D (some (.deferred (some []))),ρ',⟨fun t=>(slotL I0.sav t).heap (Le.of hle),⟨hsv,fun i c v h1 h2=>(slotS I0.sav i c v h1 h2).heap (Le.of hle)⟩,I.size,fun b o hb=>?_,fun id x hx=>?_,I0.dom,fun id li b q1 q2=>?_,I0.inj,I0.os,I0.tape,I0.out,by have:=I0.sz;rw [World.putObj_size];exact this,fun kk hk0 hb=>?_,fun b o hb=>hle b o (I0.ext b o (I.ext b o hb)),fun b o hb hlt'=>?_,⟨fun _=>True,fun _ _=>trivial,fun _ _ _=>.inr trivial,trivial⟩,?_⟩⟩
  · by_cases hbD:b=D
    · subst hbD
      rw [zaf] at hb;cases hb
      rw [World.putObj_heap_other (by omega)];exact m1
    · rw [zae _ _ hbD] at hb
      rw [World.putObj_heap_other (fun e=>by subst e;rw [hy1] at hb;cases hb)];exact I0.hp b o hb
  · exact (I0.blk id x hx).keep (Le.of hle) rfl (zcU _) (fun li b q1 q2=>World.putObj_heap_other (fun e=>by subst e;exact hy2 ⟨id,li,q1,q2⟩))
  · obtain ⟨q3,q4,q5⟩:=I0.own id li b q1 q2
    refine ⟨?_,by simpa using q4,?_⟩
    · rw [zae _ _ (fun e=>by subst e;exact hz2 ⟨id,li,q1,q2⟩)];exact q3
    · exact q5
  · rw [World.putObj_heap_other (by have:kk<w0.heap.size:=hk0;omega)];exact I0.kept kk hk0 hb
  · have hne:b≠D:=by have:b<w0.heap.size:=hlt';omega
    rw [zae _ _ hne] at hb
    exact I.old b o (I0.old b o hb hlt') hlt'
  · obtain ⟨Ds,hd1,hd2,hd3⟩:=I.dfr
    refine ⟨D::Ds,by simp [hd1],List.nodup_cons.2 ⟨fun hm=>?_,hd2⟩,fun D' hD'=>?_⟩
    · have:=hlt0 D _ (hd3 D hm).1;omega
    · rcases List.mem_cons.1 hD' with rfl|hm
      · exact ⟨zaf _ _ _,hsz0⟩
      · exact ⟨hle _ _ (I0.ext _ _ (hd3 D' hm).1),(hd3 D' hm).2⟩
 have hj1:Jf 1 (fun _=>False) W1:=by
  refine ⟨s0,hJ0,⟨⟨h,ρ,{ a with defers:=[] },rfl,?_,fun b hb=>?_⟩,hD▸hK1,Nat.le_refl _,fun b hb=>hb.elim⟩,hD▸hL1⟩
  · refine ⟨fun t=>.any _ _,⟨by show vs.length=(zdC L++SA).length;rw [← hvs2,List.length_append,List.length_append,hav1,hsv],fun i c v q1 q2=>?_⟩,I.size,fun b o hb=>?_,fun id x hx=>?_,I.dom,fun id li b q1 q2=>?_,I.inj,hB1.os.trans I.os,hB1.tape.trans I.tape,hB1.output.trans I.out,Nat.le_trans I.sz hB1.size,fun kk hk0 hb=>?_,fun b o hb=>hb,fun b o hb _=>hb,⟨fun _=>True,fun _ _=>trivial,fun _ _ _=>.inr trivial,trivial⟩,hnod⟩
    · replace q1:(zdC L++SA)[i]? = some c:=q1
      replace q2:vs[i]? = some v:=q2
      rcases Nat.lt_or_ge i (zdC L).length with hi|hi
      rotate_left
      · rw [List.getElem?_append_right hi] at q1
        rw [← hvs2,List.getElem?_append_right (by rw [hav1];exact hi),hav1] at q2
        exact I.sav.2 _ c v q1 q2
      rw [List.getElem?_append_left hi] at q1
      rw [← hvs2,List.getElem?_append_left (by rw [hav1];exact hi)] at q2
      obtain ⟨t,q3⟩:∃ t,L[i]? = some (t,c):=by
       have:∀ (L:List (Nat×AV)) (i:Nat),(zdC L)[i]? = some c→∃ t,L[i]? = some (t,c):=by
        intro L
        induction L with
        | nil=>intro i h;simp [zdC] at h
        | cons x r ih=>
         obtain ⟨d,v⟩:=x
         intro i h
         cases i with
         | zero=>simp [zdC] at h;subst h;exact ⟨d,rfl⟩
         | succ i=>simpa [zdC] using ih i (by simpa [zdC] using h)
       exact this L i q1
      have q4:fr L t=c:=by
       have:∀ (L:List (Nat×AV)),zhy (L.map (·.1))=true→∀ i:Nat,L[i]? = some (t,c)→fr L t=c:=by
        intro L
        induction L with
        | nil=>intro _ i h;simp at h
        | cons x r ih=>
         obtain ⟨d,v⟩:=x
         intro hn i h
         have hn':=zg9 hn
         simp only [List.map_cons] at hn'
         cases i with
         | zero=>
          simp at h;obtain ⟨rfl,rfl⟩:=h
          exact zfw _ _ _
         | succ i=>
          have hi:r[i]? = some (t,c):=by simpa using h
          have hne:t≠d:=by
           rintro rfl
           exact (List.nodup_cons.1 hn').1 (List.mem_map.2 ⟨(t,c),List.mem_of_getElem? hi,rfl⟩)
          simp only [fr]
          rw [zfe _ _ hne]
          refine ih ?_ i hi
          simp only [List.map_cons] at hn
          unfold zhy at hn
          split at hn
          · cases hn
          · exact hn
       exact this L hLd i q3
      have q5:v=a.tmps.getD t undef:=by
       replace q2:(L.map (fun p=>a.tmps.getD p.1 undef))[i]? = some v:=by rw [hvs];exact q2
       rw [List.getElem?_map,q3] at q2
       simpa using q2.symm
      rw [q5,← q4]
      exact I.slot t
    · rw [hB1.block b (I.hlt hb)];exact I.hp b o hb
    · exact (I.blk id x hx).keep (Le.refl h) rfl (zcU _) (fun li b q1 q2=>hB1.block b (I.own id li b q1 q2).2.1)
    · obtain ⟨q3,q4,q5⟩:=I.own id li b q1 q2
      exact ⟨q3,Nat.lt_of_lt_of_le q4 hB1.size,q5⟩
    · rw [hB1.block kk (Nat.lt_of_lt_of_le hk0 I.sz)];exact I.kept kk hk0 hb
  · have hge:D≤b:=by
     rcases hb with hb|hb|hb
     · exact hb.elim
     · omega
     · omega
    refine ⟨?_,fun ⟨id,li,q1,q2⟩=>?_⟩
    · cases ho:h b with
      | none=>rfl
      | some o=>have:=hlt0 b o ho;omega
    · have:=(I.own id li b q1 q2).2.1;omega
 refine ⟨w.heap.size+1,[{ target:=.collected w.heap.size,args:=#[] }],W1,{ target:=.fn (.func gf) ws.toArray,args:=#[.func (.yield (w.heap.size+1)) #[] #[]] },W1,gf,
  #[.func (.yield (w.heap.size+1)) #[] #[]]++ws.toArray,W1,?_,?_,fun f' hf'=>trivial,?_,fun _=>Nat.le_refl _,?_⟩
 · rw [← hW1,hrec];exact run_enterLoop_outer _ _ _ _ _
 · simp only [resolve,hev]
   simp [go_sem]
 · have eg:∀ args w,(callFunc gf args).run P w = .ok (.enter gf args) w:=hI.1
   simp [invoke,go_sem,eg]
 · have harr : #[Value.func (.yield (w.heap.size+1)) #[] #[]]++ws.toArray=(Value.func (.yield (D+1)) #[] #[]::ws).toArray:=by rw [hD];simp
   rw [harr,hD]
   refine zc4 ((hI.2 h W1 ws hws (fun b o hb=>by rw [hB1.block b (I.hlt hb)];exact I.hp b o hb) (D+1) Jf hstab hyld hj1).mono ?_)
   rintro e W2 ⟨⟨v,rfl⟩,X,hJe⟩
   rcases hJe with ⟨s,hJ,hmid,hl⟩|⟨e',s,hJX,hmid,hl⟩
   · have h5:=run_endLoop (P:=P) hl (by rw [hrec];simp)
     have h6:(rec .ready none).pending=none:=by rw [hrec]
     rw [h6] at h5
     obtain ⟨h',ρ',I'⟩:=back _ X W2 _ _ hmid hl
     exact ⟨none,_,h5,done s hJ h' ρ' _ _ I'⟩
   · have h5:=run_endLoop (P:=P) hl (by rw [hrec];simp)
     have h6:(rec .done (some (zns e'))).pending=some (zns e'):=by rw [hrec]
     rw [h6] at h5
     refine ⟨some (zns e'),_,h5,?_⟩
     rcases hX e' s hJX with rfl|⟨i,rfl⟩
     · obtain ⟨h',ρ',I'⟩:=back _ X W2 _ _ hmid hl
       exact wpIn_ret (left _ s hJX h' ρ' _ _ I')
     · obtain ⟨h',ρ',I'⟩:=back _ X W2 _ _ hmid hl
       exact wpIn_exit (left _ s hJX h' ρ' _ _ I')
theorem W.ziy {fop:Operand} {ps:Array Tmp} {assign body:Code} {gf:FuncId} {caps:List AV} {A S R:Type} {bd:A→S→(S→R)→R} {exit:S→R} {l:List A} {s0:S} {r:R} (H:Sp.ziy bd exit l s0=r) (enc:A→List AV)
 (hI:Iter P gf caps (l.map enc)) (hf:evO (fr L) fop = .clo (.func gf) [] caps) (henc:∀ x,(enc x).length=ps.size) (hpN:zpE N ps.toList=true) (hpd:zhy ps.toList=true) (hLd:zhy (L.map (·.1))=true)
 (Ms:S→List (Nat×Blk)) (hM:AgreeM M (Ms s0)) (La:A→List (Nat×AV)) (Ma:A→S→List (Nat×Blk))
 {SX:Type} (JX:Exit→SX→Prop) (MX:Exit→SX→List (Nat×Blk)) (hX:∀ e s,JX e s→e = .ret∨∃ i,e = .exit i) (hval:∀ b o,h0 b=some o→w0.heap[b]? = some o)
 (asg:∀ (h1:Hp) (vs:List Value) (gh:(Nat→Prop)→World→Prop) (st:Stab gh) (lp:Nat) (x:A) (s:S) (K:Act→World→Prop),At N (Cr w0 h1 br (zdC L++SA) vs gh st) (La x) (Ma x s) g K →
  W P N (some lp) (Cr w0 h1 br (zdC L++SA) vs gh st) assign (zipT ps.toList (enc x)++L) (Ms s) g (Exit.then K (fun _ _ _=>False)))
 (round:∀ (κ:S→R) (h1:Hp) (vs:List Value) (gh:(Nat→Prop)→World→Prop) (st:Stab gh) (lp:Nat) (x:A) (s:S),bd x s κ=r→∀ Qr:Exit→Act→World→Prop,
  (∀ s',κ s'=r→At N (Cr w0 h1 br (zdC L++SA) vs gh st) [] (Ms s') g (Qr .normal))→(∀ e s',JX e s'→At N (Cr w0 h1 br (zdC L++SA) vs gh st) [] (MX e s') g (Qr e)) →
  W P N (some lp) (Cr w0 h1 br (zdC L++SA) vs gh st) body (La x) (Ma x s) g Qr)
 (done:∀ s,exit s=r→At N (Cq w0 h0 SA SV br) L (Ms s) g (Q .normal)) (left:∀ e s,JX e s→At N (Cq w0 h0 SA SV br) L (MX e s) g (Q e)):W P N none (Cq w0 h0 SA SV br) (.rangeFunc fop ps assign body) L M g Q:=by
 have key:∀ (k:Nat) (it:List AV),(l.map enc)[k]? = some it→∃ x,l[k]? = some x∧it=enc x∧l.drop k=x::l.drop (k+1):=by
  intro k it h
  rw [List.getElem?_map] at h
  cases hx:l[k]? with
  | none=>simp [hx] at h
  | some x=>
   simp [hx] at h
   obtain ⟨hlt,rfl⟩:=List.getElem?_eq_some_iff.1 hx
   exact ⟨_,rfl,h.symm,List.drop_eq_getElem_cons hlt⟩
 refine W.rangeFunc hf hI (fun it hit=>?_) hpN hpd hLd (S:=S) (fun k s=>Sp.ziy bd exit (l.drop k) s=r) Ms s0 (by simpa using H) hM (fun k=>match l[k]? with|some x=>La x|none=>[]) (fun k s=>match l[k]? with|some x=>Ma x s|none=>[]) JX MX hX hval
  (fun h1 vs gh st lp k it s hit K hK=>?_) (fun h1 vs gh st lp k it s hit hJ Qr hQ hQx=>?_) (fun s hJ=>?_) left
 · obtain ⟨x,_,rfl⟩:=List.mem_map.1 hit
   exact henc x
 · obtain ⟨x,hx,rfl,_⟩:=key k it hit
   simp only [hx] at hK
   exact asg h1 vs gh st lp x s K hK
 · obtain ⟨x,hx,rfl,hd⟩:=key k it hit
   simp only [hx]
   rw [hd] at hJ
   exact round _ h1 vs gh st lp x s hJ Qr hQ hQx
 · refine done s ?_
   rw [List.length_map,List.drop_length] at hJ
   exact hJ
end
def Yl {A:Type} (items:List A) (g:Nat) (r:List A):Prop:=∃ d,items=d++r∧g=d.length+1
theorem Yl.start {A:Type} (items:List A):Yl items 1 items:=⟨[],rfl,rfl⟩
theorem Yl.item {A:Type} {items r:List A} {g:Nat} {Wb:Bool} {x:A} {rest:Option (List A)} (enc:A→List AV) (H:zkc Wb x rest=some r) (hY:Yl items g r) (hW:Wb=true):∃ q,g=q+1∧(items.map enc)[q]? = some (enc x):=by
 subst hW
 obtain ⟨d,rfl,rfl⟩:=hY
 unfold zkc at H
 cases rest with
 | none=>simp at H
 | some l=>
  simp at H;subst H
  exact ⟨d.length,rfl,by simp⟩
theorem Yl.next {A:Type} {items r:List A} {g g':Nat} {Wb:Bool} {x:A} {rest:Option (List A)} (H:zkc Wb x rest=some r) (hY:Yl items g r) (h1:Wb=false→g'=g) (h2:Wb=true→g'=g+1):∃ r',rest=some r'∧Yl items g' r':=by
 obtain ⟨d,rfl,rfl⟩:=hY
 unfold zkc at H
 cases Wb with
 | false=>rw [h1 rfl];exact ⟨r,H,d,rfl,rfl⟩
 | true=>
  rw [h2 rfl]
  cases rest with
  | none=>simp at H
  | some l=>
   simp at H;subst H
   exact ⟨l,rfl,d++[x],by simp,by simp⟩
theorem Yl.fin {A:Type} {items r:List A} {g:Nat} (enc:A→List AV) (H:some []=some r) (hY:Yl items g r):g=(items.map enc).length+1:=by
 cases H
 obtain ⟨d,rfl,rfl⟩:=hY
 simp
section
variable {P:Program} {N:Nat} {C:Ctx} {rr:Option Nat} {L:List (Nat×AV)} {M:List (Nat×Blk)} {g:Nat} {Q:Exit→Act→World→Prop}
theorem W.loopG {S:Type} {c:Code} (J:Nat→S→Prop) (Ls:S→List (Nat×AV)) (Ms:S→List (Nat×Blk)) (gs:S→Nat) {n0:Nat} {s0:S} (h0:J n0 s0) (hL:Agree (fr L) (Ls s0)) (hM:AgreeM M (Ms s0)) (hg:gs s0=g)
 (round:∀ n s,J n s→∀ K:Act→World→Prop,(∀ n' s',n'<n→J n' s'→At N C (Ls s') (Ms s') (gs s') K)→W P N rr C c (Ls s) (Ms s) (gs s) (Exit.then K Q)):W P N rr C (.loop c) L M g Q:=by
 refine At.conv hL hM ?_
 subst hg
 intro h ρ a w I
 let J':Nat→Act→World→Prop:=fun n a w=>∃ s h ρ,J n s∧InvH N C h ρ (fr (Ls s)) (mm (Ms s)) (gs s) a w
 have hex:∃ n,J' n a w:=⟨n0,s0,h,ρ,h0,I⟩
 classical
 let μ:Act→World→Nat:=fun a w=>if hh:∃ n,J' n a w then Classical.choose (exists_least hh) else 0
 have hμ:∀ a w,(hh:∃ n,J' n a w)→J' (μ a w) a w∧∀ m,J' m a w→μ a w≤m:=fun a w hh=>by
  have:μ a w=Classical.choose (exists_least hh):=dif_pos hh
  rw [this]
  exact Classical.choose_spec (exists_least hh)
 refine wpIn_loop (fun a w=>∃ n,J' n a w) μ hex ?_
 intro a w ha
 obtain ⟨⟨s,h,ρ,hJ,I⟩,_⟩:=hμ a w ha
 refine round _ s hJ _ (fun n' s' hlt hJ' h' ρ' a' w' I'=>?_) h ρ a w I
 have hex':∃ n,J' n a' w':=⟨n',s',h',ρ',hJ',I'⟩
 exact ⟨hex',Nat.lt_of_le_of_lt ((hμ a' w' hex').2 n' ⟨s',h',ρ',hJ',I'⟩) hlt⟩
theorem W.zpX {A S:Type} {items:List A} {body:Nat→S→(S→Option (List A))→Option (List A)} {exit:S→Option (List A)} {b:Nat} {s0:S} {r:List A} {c:Code} (H:Sp.zaq body exit b 0 s0=some r) (hY:Yl items g r)
 (Ls:Nat→S→List (Nat×AV)) (Ms:Nat→S→List (Nat×Blk)) (hL:Agree (fr L) (Ls 0 s0)) (hM:AgreeM M (Ms 0 s0))
 (round:∀ (κ:S→Option (List A)) (i:Nat) (s:S) (g:Nat) (r:List A),i≤b→Yl items g r→(i<b→body i s κ=some r)→(b≤i→exit s=some r)→∀ K:Act→World→Prop,(i<b→∀ s' g' r',Yl items g' r'→κ s'=some r'→At N C (Ls (i+1) s') (Ms (i+1) s') g' K)→W P N rr C c (Ls i s) (Ms i s) g (Exit.then K Q)) :
 W P N rr C (.loop c) L M g Q:=by
 refine W.loopG (S:=Nat×S×Nat×List A) (n0:=b) (s0:=(0,s0,g,r)) (fun n s=>s.1+n=b∧Yl items s.2.2.1 s.2.2.2∧Sp.zaq body exit n s.1 s.2.1=some s.2.2.2) (fun s=>Ls s.1 s.2.1) (fun s=>Ms s.1 s.2.1) (fun s=>s.2.2.1) ⟨Nat.zero_add _,hY,H⟩ hL hM rfl (fun n s hJ K hK=>?_)
 obtain ⟨i,s,g,r⟩:=s
 obtain ⟨h1,hy,h2⟩:=hJ
 simp only at h1 h2 hK hy ⊢
 cases n with
 | zero=>exact round (fun s=>exit s) i s g r (by omega) hy (fun hlt=>by omega) (fun _=>h2) K (fun hlt=>by omega)
 | succ n=>exact round (Sp.zaq body exit n (i+1)) i s g r (by omega) hy (fun _=>h2) (fun hge=>by omega) K (fun _ s' g' r' hy' hs'=>hK n (i+1,s',g',r') (Nat.lt_succ_self n) ⟨by simp only;omega,hy',hs'⟩)
theorem At.zoZ {w0:World} {h0:Hp} {J:Nat→(Nat→Prop)→World→Prop} {hJ:∀ k,Stab (J k)} {fn:Func} {n:Nat} (H:At N (Ci w0 h0 J hJ) L M g (zqB P fn J n .ret)):At N (Ci w0 h0 J hJ) L M g (zqB P fn J n .normal):=H
theorem W.zhL {op:Operand} {x y:Code} {n:Nat} (hb:evO (fr L) op = .nz n) (ht:n=0→W P N rr C x L M g Q) (hf:W P N rr C y L M g Q):W P N rr C (.cond op x y) L M g Q:=by
 intro h ρ a w I
 have hr:Rel h ρ (.nz n) (a.eval op):=by
  rw [← hb]
  cases op with
  | tmp t=>exact I.slot t
  | const v=>exact Rel.ze3 h ρ v
  | func f=>exact .fn _ _ _ _ [] [] rfl rfl (fun i c v hc=>by simp at hc) (fun i c v hc=>by simp at hc)
  | global g=>exact .any _ _
 obtain ⟨b,he,hn⟩:∃ b,a.eval op = .bool b∧(b=true→n=0):=by generalize a.eval op=z at hr;cases hr with|nz _ _ b hb=>exact ⟨b,rfl,hb⟩
 exact wpIn_cond_split he (fun h1=>ht (hn h1) h ρ a w I) (fun _=>hf h ρ a w I)
end
end Go.Av
end
/- Functions that blocks are handed over to. -/
section
set_option linter.all false
namespace Go.Av
open Go.Sp
abbrev Cb (w0:World) (h0:Hp) (ρb:Rho):Ctx:=Cq w0 h0 [] [] (zcw ρb)
def zmX (P:Program) (fn:Func) (h0:Hp) (w0:World) (ρb:Rho) (v:AV) (B:List (Nat×Blk)):Exit→Act→World→Prop:=bodyPostM (Fw none) 1 P fn (zll h0 w0 ρb v B)
theorem zq0 {k:Nat}:∀ {B:List (Nat×Blk)} {i:Nat},mm (shB k B) (k+i)=(mm B i).map (·.sh k)
 | [],i=>rfl
 | (j,b)::r,i=>by
  simp only [shB,mm,upd]
  by_cases h:i=j
  · subst h;simp
  · have e1:Nat.beq i j=false:=by
     cases hb:Nat.beq i j with
     | false=>rfl
     | true=>exact absurd (Nat.eq_of_beq_eq_true hb) h
    have e2:Nat.beq (k+i) (k+j)=false:=by
     cases hb:Nat.beq (k+i) (k+j) with
     | false=>rfl
     | true=>have:=Nat.eq_of_beq_eq_true hb;omega
    rw [e1,e2]
    exact zq0
theorem znj {k:Nat}:∀ {B:List (Nat×Blk)} {i:Nat},i<k→mm (shB k B) i=none
 | [],i,_=>rfl
 | (j,b)::r,i,h=>by
  simp only [shB,mm,upd]
  have e2:Nat.beq i (k+j)=false:=by
   cases hb:Nat.beq i (k+j) with
   | false=>rfl
   | true=>have:=Nat.eq_of_beq_eq_true hb;omega
  rw [e2]
  exact znj h
def LiOk:Blk→Option LI→Prop
 | .cells _,o=>∃ b,o=some (.blk b)
 | .buf _ sz n _,o=>∃ v,o=some (.sl n sz v)∧v.oneCell'=true
 | .bufk _ sz n _ _,o=>∃ v,o=some (.sl n sz v)∧v.oneCell'=true
 | .iter _ _ _,o=>∃ b,o=some (.blk b)
 | .map _ _ _ _,o=>∃ b,o=some (.blk b)
 | .dead,o=>∃ n sz,o=some (.sl n sz (.slice none 0 0))
 | .grid _ _ sz _ _ _,o=>∃ v rows,o=some (.grid v sz rows)
 | .gmap _ _ _ _ _ _ _,o=>∃ b R,o=some (.rows (some b) R)
 | .rows _ _ _ _ _ _ _,o=>∃ R,o=some (.rows none R)
theorem zfz {w:World} {base:Nat} {e:TypeId} {size:Nat} {v:Value} {n:Nat} {xs:List Value} (h:w.ownsRow base e size v n xs):v.oneCell'=true:=by
 rcases h.2 with ⟨rfl,_⟩|⟨g,cap,cur,rfl,_⟩ <;> rfl
theorem zbN.li {h:Hp} {ρ:Rho} {id:Nat} {x:Blk} {w:World} (H:zbN h ρ id x w):LiOk x (ρ id):=by
 cases x with
 | cells cs=>obtain ⟨b,vs,ty,q1,_⟩:=H;exact ⟨_,q1⟩
 | buf ty sz n e=>obtain ⟨v,xs,q1,q2,_⟩:=H;exact ⟨_,q1,zfz q2⟩
 | map z dom e n=>obtain ⟨b,es,clock,ks,q1,_⟩:=H;exact ⟨_,q1⟩
 | iter e cur Pl=>obtain ⟨b,bm,clock,c0,es,seen,left,q1,_⟩:=H;exact ⟨_,q1⟩
 | bufk ty sz n c e=>obtain ⟨v,xs,q1,q2,_⟩:=H;exact ⟨_,q1,zfz q2⟩
 | dead=>obtain ⟨n,sz,q1⟩:=H;exact ⟨_,_,q1⟩
 | grid tS ty sz n m e=>obtain ⟨v,rows,q1,_⟩:=H;exact ⟨_,_,q1⟩
 | gmap ty sz n dom m e out=>obtain ⟨b,es,clock,ks,R,q1,_⟩:=H;exact ⟨_,_,q1⟩
 | rows ty sz hd dom m e out=>obtain ⟨R,q1,_⟩:=H;exact ⟨_,q1⟩
def zrl (SA:List AV) (SV:List Value) (ρb:Rho) (k:Nat) (B0:List (Nat×Blk)):Prop:=
 ∀ (h':Hp) (ρ':Rho),(∀ (i:Nat) (c:AV) (v:Value),SA[i]? = some c→SV[i]? = some v→Rel h' ρ' c v)→(∀ id x,mm B0 id=some x→LiOk x (ρ' id))→(∀ id,mm B0 id=none→ρ' id=none) →
  ∀ i li li',ρb (k+i)=some li→ρ' i=some li'→li.le li'
theorem zmw {B:List (Nat×Blk)} {id:Nat} (h:id ∉ zaz B):mm B id=none:=by
 cases hz:mm B id with
 | none=>rfl
 | some z=>exact absurd (zdu.2 (by rw [hz];rfl)) h
def zlE (l:List Nat):List Nat→Bool
 | []=>true
 | i::r=>match zbf l i with
  | true=>false
  | false=>zlE l r
theorem zjc {l:List Nat}:∀ {r:List Nat},zlE l r=true→∀ i,i∈r→i ∉ l
 | [],_,i,h=>by cases h
 | j::r,h,i,hi=>by
  simp only [zlE] at h
  split at h
  · cases h
  · rename_i hj
    rcases List.mem_cons.1 hi with rfl|h3
    · intro hm;rw [zdZ hm] at hj;cases hj
    · exact zjc h i h3
theorem zok {SA:List AV} {SV:List Value} {ρb:Rho} {k:Nat} {A B0:List (Nat×Blk)} (hdom:∀ id,mm A id=none→ρb id=none) (hd:zlE (zaz A) (zaz (shB k B0))=true):zrl SA SV ρb k B0:=by
 intro h' ρ' _ _ h3 i li li' q1 q2
 have hi:i∈zaz B0:=by
  refine zdu.2 ?_
  cases hz:mm B0 i with
  | none=>rw [h3 i hz] at q2;cases q2
  | some z=>rfl
 have hk:k+i∈zaz (shB k B0):=by rw [ziW];exact List.mem_map_of_mem hi
 rw [hdom _ (zmw (zjc hd _ hk))] at q1;cases q1
section
variable {P:Program} {N:Nat} {Γ:Tys} {L:List (Nat×AV)} {M:List (Nat×Blk)} {g:Nat}
theorem At.retO (hΓ:zbC P Γ) {w0:World} {h0:Hp} {ρb:Rho} {fn:Func} {v:AV} {B B0:List (Nat×Blk)} {xs:List AV} (K:List Nat) (k:Nat) (hr:resL Γ (fr L) (mm M) fn.results.toList=some xs) (ho:zas K (resV xs)=true) (hB:zdA K M K=some B0) (hBo:zcZ K B0=true) (hBs:AgreeM (shB k B0) B) (hs:Sim ((resV xs).sh k) v)
 (hval:∀ b o,h0 b=some o→w0.heap[b]? = some o) {SA:List AV} {SV:List Value} (hsa:zdh K SA=true) (hst:zrl SA SV ρb k B0):At N (Cq w0 h0 SA SV (zcw ρb)) L M g (zmX P fn h0 w0 ρb v B .ret):=by
 intro h ρ a w I
 obtain ⟨Ds,hd1,hd2,hd3⟩:=I.dfr
 show LeavesInM (Fw none) 1 P fn a.tmps (zll h0 w0 ρb v B) a.defers .returning w
 rw [hd1]
 refine leaves Ds w hd2 (fun D hD=>I.hp _ _ (hd3 D hD).1) (fun w2 e1 e2 e3 e4 e5=>?_)
 have hnc:∀ (b:Nat) (o:Obj),w.heap[b]? = some o→(∀ d,o ≠ .deferred d)→w2.heap[b]? = some o:=fun b o hb hno=>by
  have:b ∉ Ds:=fun hb'=>by
   have:=I.hp _ _ (hd3 b hb').1
   rw [hb] at this;cases this
   exact hno _ rfl
  rw [e5 b this];exact hb
 obtain ⟨vs,h1,h2⟩:=zj2 (w2:=w2) hΓ I (fun b o hb ho=>hnc b o hb (fun d e=>by subst e;simp [Obj.isCells] at ho)) hr
 have hres:(results fn a.tmps).run P w2 = .ok (if h:vs.length=1 then vs[0] else .tuple vs.toArray) w2:=by
  unfold results
  rw [Array.mapM_eq_mapM_toList]
  rw [map_eq_pure_bind]
  simp only [Sem.run_bind,Sem.run_pure]
  have key:∀ r:Result (List Value),r = .ok vs w2→(r.andThen fun a w'=>.ok a.toArray w').andThen (fun a w'=>Result.ok (if h:a.size=1 then a[0] else Value.tuple a) w') = .ok (if h:vs.length=1 then vs[0] else .tuple vs.toArray) w2:=by
   rintro _ rfl
   simp only [Result.andThen_ok,List.size_toArray,List.getElem_toArray]
  exact key _ h1
 refine ⟨_,hres,?_⟩
 obtain ⟨ρ',hρ,I'⟩:=I.forget (ts:=[]) (L':=[]) rfl hB hsa
 let h':Hp:=fun b=>if b∈Ds then none else h b
 have hle:Le h h':=by
  intro b o hb _ hno
  show (if b∈Ds then none else h b)=some o
  rw [if_neg ?_]
  · exact hb
  · intro hbD
    rw [(hd3 b hbD).1] at hb;cases hb
    exact hno _ rfl
 let ρ2:Rho:=fun j=>if k≤j then ρ' (j - k) else none
 have hin:∀ i,ρ2 (k+i)=ρ' i:=fun i=>by
  show (if k≤k+i then ρ' (k+i - k) else none)=ρ' i
  rw [if_pos (Nat.le_add_right _ _),Nat.add_sub_cancel_left]
 have hinv:∀ j li,ρ2 j=some li→∃ i,j=k+i∧ρ' i=some li:=fun j li hj=>by
  have:(if k≤j then ρ' (j - k) else none)=some li:=hj
  split at this
  · exact ⟨j - k,by omega,this⟩
  · cases this
 have hok:∀ i x,mm B0 i=some x→zeB K x=true:=by
  have key:∀ {ids:List Nat} {B':List (Nat×Blk)},zcZ ids B'=true→∀ i x,mm B' i=some x→zeB ids x=true:=by
   intro ids B'
   induction B' with
   | nil=>intro _ i x hx;cases hx
   | cons y r ih=>
    obtain ⟨j,b⟩:=y
    intro ho i x hx
    unfold zcZ at ho
    split at ho
    · rename_i hb
      simp only [mm,upd] at hx
      split at hx
      · cases hx;exact hb
      · exact ih ho i x hx
    · cases ho
  exact key hBo
 have hmem:∀ i x,mm B0 i=some x→i∈K:=by
  have key:∀ {is:List Nat} {M'':List (Nat×Blk)},zdA K M is=some M''→∀ i b,mm M'' i=some b→i∈is:=by
   intro is
   induction is with
   | nil=>intro M'' h i b hb;simp only [zdA] at h;cases h;cases hb
   | cons s is ih=>
    intro M'' h i b hb
    simp only [zdA] at h
    split at h
    · cases h
    · split at h
      · split at h
        · rename_i r hr
          cases h
          simp only [mm,upd] at hb
          split at hb
          · rename_i hbe;have:=Nat.eq_of_beq_eq_true hbe;subst this;exact List.mem_cons_self ..
          · exact List.mem_cons_of_mem _ (ih hr i b hb)
        · cases h
      · cases h
  exact key hB
 refine ⟨h',ρ2,e1.trans I.os,e2.trans I.tape,e3.trans I.out,by rw [e4];exact I.sz,fun kk hk hb=>?_,fun b o hb=>?_,fun b o hb=>?_,?_,⟨fun id y hy=>?_,fun id hid=>?_,fun id li b q1 q2=>?_,fun id id' li li' b q1 q1' q2 q2'=>?_⟩,fun id li b q1 q2=>?_,fun id li li' q1 q2=>?_⟩
 · rw [e5 kk (fun hkD=>by have:=(hd3 kk hkD).2;exact absurd hk (Nat.not_lt.2 this))]
   exact I.kept kk hk hb
 · show (if b∈Ds then none else h b)=some o
   rw [if_neg (fun hbD=>absurd (zgc (hval b _ hb)) (Nat.not_lt.2 (hd3 b hbD).2))]
   exact I.ext b o hb
 · have hb':b ∉ Ds∧h b=some o:=by
    have:(if b∈Ds then none else h b)=some o:=hb
    split at this
    · cases this
    · exact ⟨by assumption,this⟩
   rcases Nat.lt_or_ge b w0.heap.size with hlt|hge
   · exact .inl (I.old b o hb'.2 hlt)
   · right
     refine ⟨hge,?_⟩
     rw [e5 b hb'.1]
     exact I.hp b o hb'.2
 · refine hs _ _ _ ?_
   have:=((zm5 h2).forget hρ ho).heap hle
   exact this.shift (fun id _=>hin id) ho
 · obtain ⟨y0,q1,q2⟩:=(hBs.spec id).2 y hy
   rcases Nat.lt_or_ge id k with hlt|hge
   · rw [znj hlt] at q1;cases q1
   · obtain ⟨i,rfl⟩:∃ i,id=k+i:=⟨id - k,by omega⟩
     rw [zq0] at q1
     cases hz:mm B0 i with
     | none=>simp [hz] at q1
     | some z=>
      simp [hz] at q1
      subst q1
      refine q2 _ _ _ _ ?_
      have hb:=(I'.blk i z hz).keep hle rfl (zcU _) (w':=w2) (fun li b q3 q4=>e5 b (fun hbD=>by
       have:=(I'.own i li b q3 q4).1
       rw [(hd3 b hbD).1] at this;cases this))
      exact hb.shift (ids:=K) (fun id _=>hin id) (hmem i z hz) (hok i z hz)
 · cases hp:ρ2 id with
   | none=>rfl
   | some li=>
    obtain ⟨i,rfl,q1⟩:=hinv id li hp
    have:=((hBs.spec (k+i)).1).1 hid
    rw [zq0] at this
    have h3:mm B0 i=none:=by
     cases hz:mm B0 i with
     | none=>rfl
     | some z=>simp [hz] at this
    rw [I'.dom i h3] at q1;cases q1
 · obtain ⟨i,rfl,q3⟩:=hinv id li q1
   obtain ⟨z1,z2,z3⟩:=I'.own i li b q3 q2
   refine ⟨?_,by rw [e4];exact z2⟩
   show (if b∈Ds then none else h b)=none
   split
   · rfl
   · exact z1
 · obtain ⟨i,rfl,q3⟩:=hinv id li q1
   obtain ⟨i',rfl,q3'⟩:=hinv id' li' q1'
   rw [I'.inj i i' li li' b q3 q3' q2 q2']
 · obtain ⟨i,rfl,q3⟩:=hinv id li q1
   obtain ⟨z1,z2,z3⟩:=I'.own i li b q3 q2
   exact z3.symm
 · obtain ⟨i,rfl,q3⟩:=hinv id li' q2
   exact hst h ρ' I'.sav.2 (fun id x hx=>(I'.blk id x hx).li) I'.dom i li li' q1 q3
theorem At.retK (hΓ:zbC P Γ) {w0:World} {h0:Hp} {ρb:Rho} {fn:Func} {v:AV} {A B B0:List (Nat×Blk)} {xs:List AV} (K:List Nat) (k:Nat) (hr:resL Γ (fr L) (mm M) fn.results.toList=some xs) (ho:zas K (resV xs)=true) (hB:zdA K M K=some B0) (hBo:zcZ K B0=true) (hBs:AgreeM (shB k B0) B) (hs:Sim ((resV xs).sh k) v)
 (hval:∀ b o,h0 b=some o→w0.heap[b]? = some o) (hdom:∀ id,mm A id=none→ρb id=none) (hd:zlE (zaz A) (zaz (shB k B0))=true):At N (Cb w0 h0 ρb) L M g (zmX P fn h0 w0 ρb v B .ret):=
 At.retO hΓ K k hr ho hB hBo hBs hs hval rfl (zok hdom hd)
theorem At.zdN {w0:World} {h0:Hp} {ρb:Rho} {fn:Func} {v:AV} {B:List (Nat×Blk)} {SA:List AV} {SV:List Value} (H:At N (Cq w0 h0 SA SV (zcw ρb)) L M g (zmX P fn h0 w0 ρb v B .ret)):At N (Cq w0 h0 SA SV (zcw ρb)) L M g (zmX P fn h0 w0 ρb v B .normal):=H
theorem CtrO.zb5 {f : FuncId} {fn : Func} {c : Code} {xs : List AV} {v : AV} {A B : List (Nat × Blk)} (hf : P.funcs[f]? = some fn) (hn : (fn.name == "runtime.NumGoroutine") = false) (hb : fn.body = some c) (hN : fn.ntmps = N) (hx : Nat.ble xs.length N = true)
 (H:∀ w0 h0 ρb,(∀ b o,h0 b=some o→w0.heap[b]? = some o)→(∀ id,mm A id=none→ρb id=none)→W P N none (Cb w0 h0 ρb) c (argL 0 xs) A 0 (zmX P fn h0 w0 ρb v B)):CtrO P f xs A v B:=by
 refine ⟨enters_of hf hn hb,fun h w ρ vs hR hp O=>?_⟩
 refine zc4 (n:=1) (callsIn_of_wp_marks hf hb trivial ?_)
 refine H w h ρ hp O.dom h ρ _ w ?_
 have hlen:vs.length≤N:=by rw [hR.1];exact Nat.le_of_ble_eq_true hx
 refine ⟨fun t=>?_,⟨rfl,fun i c v h1=>by simp [Cb,Cq] at h1⟩,?_,hp,O.blk,O.dom,fun id li b q1 q2=>⟨(O.own id li b q1 q2).1,(O.own id li b q1 q2).2,.inr ⟨id,li,q1,q2⟩⟩,O.inj,rfl,rfl,rfl,Nat.le_refl _,fun _ _ _=>rfl,fun b o hb=>hb,fun b o hb _=>hb,⟨fun _=>True,fun _ _=>trivial,fun _ _ _=>.inr trivial,trivial⟩,⟨[],rfl,List.nodup_nil,fun D hD=>(by cases hD)⟩⟩
 · rcases zhU (h:=h) (ρ:=ρ) 0 hR t with e|⟨i,u,e1,e2,e3⟩
   · rw [e];exact .any _ _
   · have e0:t=i:=by omega
     subst e0
     have hi:t<vs.length:=(List.getElem?_eq_some_iff.1 e2).1
     have:(vs.toArray++Array.replicate (fn.ntmps - vs.toArray.size) undef).getD t undef=u:=by
      have e4:vs[t]=u:=by have:=List.getElem?_eq_getElem hi;rw [this] at e2;exact Option.some.inj e2
      simp [Array.getElem?_append,hi,e4]
     rw [this]
     exact e3
 · simp [hN];omega
theorem CtrO.at {f:FuncId} {n ty sz n':Nat} {e:Nat→List AV} {rest:List AV} {v:AV} {B:List (Nat×Blk)} {id0:Nat} (H:CtrO P f (.buf id0 n::rest) [(id0,.buf ty sz n' e)] v B) (hc:clL rest=true) (id:Nat) (hB:zbf (zaz B) id=false:=by rfl):CtrO P f (.buf id n::rest) [(id,.buf ty sz n' e)] v B:=by
 refine ⟨H.1,fun h w ρ vs hR hp O=>?_⟩
 let ρ2:Rho:=fun j=>if j=id0 then ρ id else none
 have h2:ρ2 id0=ρ id:=if_pos rfl
 have hinv:∀ j li,ρ2 j=some li→j=id0∧ρ id=some li:=fun j li hj=>by
  have:(if j=id0 then ρ id else none)=some li:=hj
  split at this
  · exact ⟨by assumption,this⟩
  · cases this
 have hset:∀ b,zcw ρ2 b↔zcw ρ b:=fun b=>by
  constructor
  · rintro ⟨j,li,q1,q2⟩
    exact ⟨id,li,(hinv j li q1).2,q2⟩
  · rintro ⟨j,li,q1,q2⟩
    have hj:j=id:=by
     cases hz:mm [(id,Blk.buf ty sz n' e)] j with
     | none=>rw [O.dom j hz] at q1;cases q1
     | some z=>
      simp only [mm,upd] at hz
      split at hz
      · rename_i hb;exact Nat.eq_of_beq_eq_true hb
      · cases hz
    subst hj
    exact ⟨id0,li,h2.trans q1,q2⟩
 obtain ⟨x,r,rfl,q1,q2⟩:=hR.zdP
 have hR2:RelL h ρ2 (.buf id0 n::rest) (x::r):=by
  refine RelL.cons ?_ (q2.zdO hc)
  cases q1 with
  | buf _ _ _ n2 sz2 _ v' hb hle h1 he=>exact .buf _ _ _ _ _ _ _ (h2.trans hb) hle h1 he
 have hO2:Ownd h ρ2 [(id0,.buf ty sz n' e)] w:=by
  refine ⟨fun j y hj=>?_,fun j hj=>?_,fun j li b q3 q4=>O.own id li b (hinv j li q3).2 q4,fun j j' li li' b q3 q3' _ _=>by rw [(hinv j li q3).1,(hinv j' li' q3').1]⟩
  · simp only [mm,upd] at hj
    split at hj
    · rename_i hb
      have:=Nat.eq_of_beq_eq_true hb
      subst this
      cases hj
      obtain ⟨v0,us,k1,k2⟩:=O.blk id (.buf ty sz n' e) (by simp [mm,upd])
      exact ⟨v0,us,h2.trans k1,k2⟩
    · cases hj
  · cases hp2:ρ2 j with
    | none=>rfl
    | some li=>
     obtain ⟨rfl,_⟩:=hinv j li hp2
     simp [mm,upd] at hj
 refine (H.2 h w ρ2 _ hR2 hp hO2).mono (fun en w' he=>?_)
 cases en with
 | panicked ch=>exact he.elim
 | outgrown=>exact he.elim
 | returned x=>
 obtain ⟨h',ρ',p1,p2,p3,p4,p5,p6,p7,p8,p9,p10,_⟩:=he
 refine ⟨h',ρ',p1,p2,p3,p4,fun kk hk hn=>p5 kk hk (fun ho=>hn ((hset kk).1 ho)),p6,p7,p8,p9,fun i li b q3 q4=>(p10 i li b q3 q4).imp (fun h=>(hset b).1 h) (fun h=>h),fun i li li' q3 q4=>?_⟩
 exfalso
 by_cases hi:i=id
 · subst hi
   have:i ∉ zaz B:=fun hm=>by rw [zdZ hm] at hB;cases hB
   rw [p9.dom i (zmw this)] at q4;cases q4
 · rw [O.dom i (by simp only [mm];rw [zae _ _ hi])] at q3;cases q3
theorem BSim.bufk {ty sz n c:Nat} {e:Nat→List AV} {y:Blk} (H:BSim (.buf ty sz n e) y):BSim (.bufk ty sz n c e) y:=by
 intro h ρ id w B
 obtain ⟨v,xs,q1,q2,_,q3⟩:=B
 exact H h ρ id w ⟨v,xs,q1,q2,q3⟩
theorem Seg.moved {T:Type} [Inhabited T] {f:T→List AV} {l:List T} (b j:Nat) (hb:b≤j) (hj:j≤l.length):Seg f (b+(l.length - j)) (fun q=>if q<b then f (l.getD q default) else f (l.getD (j+(q - b)) default)) (l.take b++l.drop j):=by
 refine ⟨by simp;omega,fun k hk=>?_⟩
 by_cases h:k<b
 · simp only [h,if_true]
   simp [List.getD_eq_getElem?_getD,List.getElem?_append_left (show k<(l.take b).length by simp;omega),List.getElem?_take,h]
 · simp only [h,if_false]
   have hl:(l.take b).length=b:=by simp;omega
   simp only [List.getD_eq_getElem?_getD]
   rw [List.getElem?_append_right (by rw [hl];omega),hl,List.getElem?_drop]
theorem zhT {id n m:Nat} (h:n=m):AV.buf id n=AV.buf id m:=h▸rfl
end
def zrh {T:Type} [Inhabited T] (ty sz c:Nat) (f:T→List AV) (l:List T):Blk:=.bufk ty sz l.length c (fun i=>f (l.getD i default))
theorem BSim.kseg {T:Type} [Inhabited T] {ty sz c n:Nat} {f:T→List AV} {e:Nat→List AV} {l:List T} (H:Seg f n e l):BSim (.bufk ty sz n c e) (zrh ty sz c f l):=by
 obtain ⟨rfl,he⟩:=H
 intro h ρ id w B
 obtain ⟨v,xs,q1,q2,q3,q4,q5,q6⟩:=B
 exact ⟨v,xs,q1,q2,q3,fun i hi=>by have:=q4 i hi;rw [he i hi] at this;exact this,q5,fun i j c x hi hc hx=>q6 i j c x hi (by rw [he i hi];exact hc) hx⟩
theorem Ctr.ofO {P:Program} {f:FuncId} {args:List AV} {v:AV} {B:List (Nat×Blk)} (H:CtrO P f args [] v B):Ctr P f args v B:=by
 refine ⟨H.1,fun h w vs hR hp=>?_⟩
 have hno:∀ b,¬ zcw ρ0 b:=fun b ⟨id,li,q,_⟩=>by cases q
 refine (H.2 h w ρ0 vs hR hp ⟨fun id x hx=>(by cases hx),fun _ _=>rfl,fun id li b q=>(by cases q),fun id id' li li' b q=>(by cases q)⟩).mono (fun en w' he=>?_)
 cases en with
 | panicked ch=>exact he.elim
 | outgrown=>exact he.elim
 | returned x=>
 obtain ⟨h',ρ',p1,p2,p3,p4,p5,p6,p7,p8,p9,p10,_⟩:=he
 exact ⟨h',ρ',⟨p1,p2,p3,p4,fun k hk=>p5 k hk (hno k)⟩,p6,p7,p8,⟨p9.blk,p9.dom,fun id li b q1 q2=>⟨(p9.own id li b q1 q2).1,(p10 id li b q1 q2).resolve_left (hno b),(p9.own id li b q1 q2).2⟩,p9.inj⟩⟩
section
variable {N:Nat} {C:Ctx} {L:List (Nat×AV)} {M:List (Nat×Blk)} {g:Nat} {R:Act→World→Prop}
end
end Go.Av
end
/- Functions that blocks are lent to: these come back under their names. Names may be changed. -/
section
set_option linter.all false
namespace Go.Av
open Go.Sp
def ref:Nat×Blk→AV
 | (id,.cells _)=>.lp id 0
 | (id,.buf _ _ n _)=>.buf id n
 | (id,.map _ _ _ _)=>.mp id
 | _=>.any
def refs:List (Nat×Blk)→List AV
 | []=>[]
 | x::r=>ref x::refs r
def refV (ρ:Rho):Nat×Blk→Value
 | (id,.cells _)=>match ρ id with
  | some (.blk b)=>.pointer (some ⟨b,0,none⟩)
  | _=>undef
 | (id,.buf _ _ _ _)=>match ρ id with
  | some (.sl _ _ v)=>v
  | _=>undef
 | (id,.map _ _ _ _)=>match ρ id with
  | some (.blk b)=>.map (some b)
  | _=>undef
 | _=>undef
def zja (ρ:Rho):List (Nat×Blk)→List Value
 | []=>[]
 | x::r=>refV ρ x::zja ρ r
def zmv:Blk→Blk→Bool
 | .cells _,.cells _=>true
 | .map _ _ _ _,.map _ _ _ _=>true
 | .buf _ sz _ _,.buf _ sz' _ _=>Nat.beq sz sz'
 | .buf _ sz _ _,.bufk _ sz' _ _ _=>Nat.beq sz sz'
 | _,_=>false
def sameShape (B0:List (Nat×Blk)):List (Nat×Blk)→Bool
 | []=>true
 | (i,x)::r=>match mm B0 i with
  | none=>sameShape B0 r
  | some y=>match zmv x y with
   | true=>sameShape B0 r
   | false=>false
theorem zm9 {ρ:Rho}:∀ {A:List (Nat×Blk)} {i:Nat} {x:Nat×Blk},A[i]? = some x→(refs A)[i]? = some (ref x)∧(zja ρ A)[i]? = some (refV ρ x)
 | [],i,x,h=>by simp at h
 | y::A,0,x,h=>by simp at h;subst h;exact ⟨rfl,rfl⟩
 | y::A,i+1,x,h=>by
  simp only [List.getElem?_cons_succ] at h
  have:=zm9 (ρ:=ρ) h
  simpa [refs,zja] using this
theorem zm7 {ρ:Rho}:∀ {A:List (Nat×Blk)},(zja ρ A).length=(refs A).length
 | []=>rfl
 | y::A=>by simp [refs,zja,zm7 (A:=A)]
theorem zm8 {ρ:Rho}:∀ {A:List (Nat×Blk)} {i:Nat} {c:AV} {v:Value},(refs A)[i]? = some c→(zja ρ A)[i]? = some v→∃ x,A[i]? = some x∧c=ref x∧v=refV ρ x
 | [],i,c,v,h,_=>by simp [refs] at h
 | y::A,0,c,v,h,k=>by simp [refs] at h;simp [zja] at k;exact ⟨y,rfl,h.symm,k.symm⟩
 | y::A,i+1,c,v,h,k=>by
  simp only [refs,List.getElem?_cons_succ] at h
  simp only [zja,List.getElem?_cons_succ] at k
  obtain ⟨x,q1,q2,q3⟩:=zm8 h k
  exact ⟨x,by simpa using q1,q2,q3⟩
theorem zqE:∀ {A:List (Nat×Blk)} {id:Nat} {x:Blk},mm A id=some x→∃ i:Nat,A[i]? = some (id,x)
 | [],id,x,h=>by cases h
 | (j,y)::A,id,x,h=>by
  simp only [mm,upd] at h
  split at h
  · rename_i hb
    have:=Nat.eq_of_beq_eq_true hb
    subst this
    cases h
    exact ⟨0,rfl⟩
  · obtain ⟨i,hi⟩:=zqE h
    exact ⟨i+1,by simpa using hi⟩
theorem zqF:∀ {A:List (Nat×Blk)} {i id:Nat} {x:Blk},zf5 (zaz A)=true→A[i]? = some (id,x)→mm A id=some x
 | [],i,id,x,_,h=>by simp at h
 | (j,y)::A,0,id,x,_,h=>by simp at h;obtain ⟨rfl,rfl⟩:=h;simp [mm,upd]
 | (j,y)::A,i+1,id,x,hn,h=>by
  simp only [List.getElem?_cons_succ] at h
  obtain ⟨n1,n2⟩:=zgB (i:=j) (r:=zaz A) hn
  have:=zqF n2 h
  have hne:id≠j:=fun e=>n1 (by subst e;exact zdu.2 (by rw [this];rfl))
  simp only [mm]
  rw [zae _ _ hne]
  exact this
theorem ze1 {B0:List (Nat×Blk)}:∀ {A:List (Nat×Blk)},sameShape B0 A=true→∀ (i id:Nat) (x y:Blk),A[i]? = some (id,x)→mm B0 id=some y→zmv x y=true
 | [],_,i,id,x,y,h,_=>by simp at h
 | (j,z)::A,hs,i,id,x,y,h,hy=>by
  simp only [sameShape] at hs
  cases i with
  | zero=>
   simp at h
   obtain ⟨rfl,rfl⟩:=h
   simp only [hy] at hs
   split at hs
   · assumption
   · cases hs
  | succ i=>
   simp only [List.getElem?_cons_succ] at h
   split at hs
   · exact ze1 hs i id x y h hy
   · split at hs
     · exact ze1 hs i id x y h hy
     · cases hs
theorem znM {ρb:Rho} {A B0:List (Nat×Blk)} (hdom:∀ id,mm A id=none→ρb id=none) (hent:∀ id x,mm A id=some x→LiOk x (ρb id)) (hs:sameShape B0 A=true):zrl (refs A) (zja ρb A) ρb 0 B0:=by
 intro h' ρ' h1 h2 h3 id li li' q1 q2
 rw [Nat.zero_add] at q1
 cases hx:mm A id with
 | none=>rw [hdom id hx] at q1;cases q1
 | some x=>
 cases hy:mm B0 id with
 | none=>rw [h3 id hy] at q2;cases q2
 | some y=>
 obtain ⟨i,hi⟩:=zqE hx
 obtain ⟨r1,r2⟩:=zm9 (ρ:=ρb) hi
 have hrel:=h1 i _ _ r1 r2
 have hsh:=ze1 hs i id x y hi hy
 have hA:=hent id x hx
 have hB:=h2 id y hy
 cases x <;> cases y <;> simp only [zmv] at hsh <;> (try (cases hsh;done))
 case cells.cells=>
  obtain ⟨b,e1⟩:=hA
  obtain ⟨b',e2⟩:=hB
  rw [e1] at q1;cases q1
  rw [e2] at q2;cases q2
  simp only [ref,refV,e1] at hrel
  cases hrel with
  | lp _ _ _ b2 hb=>rw [e2] at hb;cases hb;exact .inl rfl
 case map.map=>
  obtain ⟨b,e1⟩:=hA
  obtain ⟨b',e2⟩:=hB
  rw [e1] at q1;cases q1
  rw [e2] at q2;cases q2
  simp only [ref,refV,e1] at hrel
  cases hrel with
  | mp _ _ li2 b2 hb hmb=>rw [e2] at hb;cases hb;cases hmb;exact .inl rfl
 case buf.buf=>
  rename_i ty sz n e ty' sz' n' e'
  have hsz:=Nat.eq_of_beq_eq_true hsh
  subst hsz
  obtain ⟨v,e1,_⟩:=hA
  obtain ⟨v',e2,_⟩:=hB
  rw [e1] at q1;cases q1
  rw [e2] at q2;cases q2
  simp only [ref,refV,e1] at hrel
  generalize v=u at hrel
  cases hrel with
  | buf _ _ _ n2 sz2 _ v2 hb hle h1' he=>
   rw [e2] at hb;cases hb
   rcases Nat.lt_or_ge n n' with hlt|hge
   · exact .inr (.inl ⟨_,_,_,_,_,rfl,rfl,hlt⟩)
   · have hn:n=n':=by omega
     subst hn
     rw [he rfl];exact .inl rfl
 case buf.bufk=>
  rename_i ty sz n e ty' sz' n' c' e'
  have hsz:=Nat.eq_of_beq_eq_true hsh
  subst hsz
  obtain ⟨v,e1,_⟩:=hA
  obtain ⟨v',e2,_⟩:=hB
  rw [e1] at q1;cases q1
  rw [e2] at q2;cases q2
  simp only [ref,refV,e1] at hrel
  generalize v=u at hrel
  cases hrel with
  | buf _ _ _ n2 sz2 _ v2 hb hle h1' he=>
   rw [e2] at hb;cases hb
   rcases Nat.lt_or_ge n n' with hlt|hge
   · exact .inr (.inl ⟨_,_,_,_,_,rfl,rfl,hlt⟩)
   · have hn:n=n':=by omega
     subst hn
     rw [he rfl];exact .inl rfl
theorem zqT {h:Hp} {ρ:Rho} {id:Nat} {x:Blk} (H:LiOk x (ρ id)):Rel h ρ (ref (id,x)) (refV ρ (id,x)):=by
 cases x with
 | cells cs=>obtain ⟨b,e⟩:=H;simp only [ref,refV,e];exact .lp _ _ _ _ e
 | buf ty sz n f=>obtain ⟨v,e,h1⟩:=H;simp only [ref,refV,e];exact .buf _ _ _ _ _ _ _ e (Nat.le_refl _) h1 (fun _=>rfl)
 | map z d f n=>obtain ⟨b,e⟩:=H;simp only [ref,refV,e];exact .mp _ _ _ _ e rfl
 | bufk|dead|grid|iter|gmap|rows=>exact .any _ _
section
variable {P:Program} {N:Nat}
theorem CtrL.zb5 {f : FuncId} {fn : Func} {c : Code} {xs : List AV} {v : AV} {A B : List (Nat × Blk)} (hf : P.funcs[f]? = some fn) (hn : (fn.name == "runtime.NumGoroutine") = false) (hb : fn.body = some c) (hN : fn.ntmps = N) (hx : Nat.ble xs.length N = true) (hA : zf5 (zaz A) = true)
 (H:∀ w0 h0 ρb,(∀ b o,h0 b=some o→w0.heap[b]? = some o)→(∀ id,mm A id=none→ρb id=none)→(∀ id x,mm A id=some x→LiOk x (ρb id))→W P N none (Cq w0 h0 (refs A) (zja ρb A) (zcw ρb)) c (argL 0 xs) A 0 (zmX P fn h0 w0 ρb v B)):CtrO P f xs A v B:=by
 refine ⟨enters_of hf hn hb,fun h w ρ vs hR hp O=>?_⟩
 refine zc4 (n:=1) (callsIn_of_wp_marks hf hb trivial ?_)
 refine H w h ρ hp O.dom (fun id x hx=>(O.blk id x hx).li) h ρ _ w ?_
 have hlen:vs.length≤N:=by rw [hR.1];exact Nat.le_of_ble_eq_true hx
 refine ⟨fun t=>?_,⟨zm7,fun i c v h1 h2=>?_⟩,?_,hp,O.blk,O.dom,fun id li b q1 q2=>⟨(O.own id li b q1 q2).1,(O.own id li b q1 q2).2,.inr ⟨id,li,q1,q2⟩⟩,O.inj,rfl,rfl,rfl,Nat.le_refl _,fun _ _ _=>rfl,fun b o hb=>hb,fun b o hb _=>hb,⟨fun _=>True,fun _ _=>trivial,fun _ _ _=>.inr trivial,trivial⟩,⟨[],rfl,List.nodup_nil,fun D hD=>(by cases hD)⟩⟩
 · rcases zhU (h:=h) (ρ:=ρ) 0 hR t with e|⟨i,u,e1,e2,e3⟩
   · rw [e];exact .any _ _
   · have e0:t=i:=by omega
     subst e0
     have hi:t<vs.length:=(List.getElem?_eq_some_iff.1 e2).1
     have:(vs.toArray++Array.replicate (fn.ntmps - vs.toArray.size) undef).getD t undef=u:=by
      have e4:vs[t]=u:=by have:=List.getElem?_eq_getElem hi;rw [this] at e2;exact Option.some.inj e2
      simp [Array.getElem?_append,hi,e4]
     rw [this]
     exact e3
 · obtain ⟨⟨id,x⟩,q1,rfl,rfl⟩:=zm8 h1 h2
   exact zqT (O.blk id x (zqF hA q1)).li
 · simp [hN];omega
end
section
variable {P:Program} {N:Nat} {Γ:Tys} {L:List (Nat×AV)} {M:List (Nat×Blk)} {g:Nat}
theorem At.retL (hΓ:zbC P Γ) {w0:World} {h0:Hp} {ρb:Rho} {fn:Func} {v:AV} {A B B0:List (Nat×Blk)} {xs:List AV} (K:List Nat) (hr:resL Γ (fr L) (mm M) fn.results.toList=some xs) (ho:zas K (resV xs)=true) (hB:zdA K M K=some B0) (hBo:zcZ K B0=true) (hBs:AgreeM (shB 0 B0) B) (hs:Sim ((resV xs).sh 0) v)
 (hval:∀ b o,h0 b=some o→w0.heap[b]? = some o) (hdom:∀ id,mm A id=none→ρb id=none) (hent:∀ id x,mm A id=some x→LiOk x (ρb id)) (hsa:zdh K (refs A)=true) (hd:sameShape B0 A=true):At N (Cq w0 h0 (refs A) (zja ρb A) (zcw ρb)) L M g (zmX P fn h0 w0 ρb v B .ret):=
 At.retO hΓ K 0 hr ho hB hBo hBs hs hval hsa (znM hdom hent hd)
end
def look:List (Nat×Nat)→Nat→Nat
 | [],i=>i
 | (a,b)::r,i=>match Nat.beq i a with
  | true=>b
  | false=>look r i
mutual
def AV.ren (π:List (Nat×Nat)):AV→AV
 | .lp id off=>.lp (look π id) off
 | .buf id n=>.buf (look π id) n
 | .ep id n i off=>.ep (look π id) n i off
 | .mp id=>.mp (look π id)
 | .gb id n=>.gb (look π id) n
 | .gp id n i=>.gp (look π id) n i
 | .gr' id i m=>.gr' (look π id) i m
 | .ge id i m j off=>.ge (look π id) i m j off
 | .sb id n a b=>.sb (look π id) n a b
 | .agg cs=>.agg (renL π cs)
 | .tup cs=>.tup (renL π cs)
 | .fn f fs cs=>.fn f (renL π fs) (renL π cs)
 | .ifc t v=>.ifc t (v.ren π)
 | .cnd g v=>.cnd g (v.ren π)
 | .pin hp v=>.pin hp v
 | .ns b v=>.ns b (v.ren π)
 | .any=>.any
 | .one=>.one
 | .nilS=>.nilS
 | .nilFn=>.nilFn
 | .nilPtr=>.nilPtr
 | .nilMap=>.nilMap
 | .nilIfc=>.nilIfc
 | .bool b=>.bool b
 | .int k n=>.int k n
 | .ro sz n e=>.ro sz n e
 | .rp cs=>.rp cs
 | .clo f a b=>.clo f a b
 | .rom z d e n=>.rom z d e n
 | .raw v=>.raw v
 | .nz n=>.nz n
 | .po b cs=>.po b cs
def renL (π:List (Nat×Nat)):List AV→List AV
 | []=>[]
 | c::cs=>c.ren π::renL π cs
end
def Blk.ren (π:List (Nat×Nat)):Blk→Blk
 | .cells cs=>.cells (renL π cs)
 | .buf ty sz n e=>.buf ty sz n e
 | .map z d e n=>.map z d e n
 | .dead=>.dead
 | .grid a b c d e f=>.grid a b c d e f
 | .bufk a b c d e=>.bufk a b c d e
 | .iter a b c=>.iter a b c
 | .gmap ty sz n dom m e out=>.gmap ty sz n dom m e (mapO (fun a=>a.ren π) out)
 | .rows ty sz hd dom m e out=>.rows ty sz hd dom m e (mapO (fun a=>a.ren π) out)
def renB (π:List (Nat×Nat)):List (Nat×Blk)→List (Nat×Blk)
 | []=>[]
 | (i,b)::r=>(look π i,b.ren π)::renB π r
theorem zdr {π:List (Nat×Nat)}:∀ {cs:List AV},(renL π cs).length=cs.length
 | []=>rfl
 | c::cs=>by simp [renL,zdr (cs:=cs)]
theorem zgA {π:List (Nat×Nat)}:∀ {cs:List AV} {i:Nat} {c:AV},(renL π cs)[i]? = some c→∃ c0,cs[i]? = some c0∧c=c0.ren π
 | [],i,c,h=>by simp [renL] at h
 | x::cs,0,c,h=>by simp [renL] at h;exact ⟨x,by simp,h.symm⟩
 | x::cs,i+1,c,h=>by
  simp only [renL,List.getElem?_cons_succ] at h
  obtain ⟨c0,e1,e2⟩:=zgA h
  exact ⟨c0,by simpa using e1,e2⟩
theorem zg7 {π:List (Nat×Nat)}:∀ {cs:List AV} {i:Nat} {c:AV},cs[i]? = some c→(renL π cs)[i]? = some (c.ren π)
 | [],i,c,h=>by simp at h
 | x::cs,0,c,h=>by simp at h;subst h;simp [renL]
 | x::cs,i+1,c,h=>by
  simp only [List.getElem?_cons_succ] at h
  simp only [renL,List.getElem?_cons_succ]
  exact zg7 h
theorem Rel.ren {h:Hp} {ρ ρ':Rho} {ids:List Nat} {π:List (Nat×Nat)} (hρ:∀ id,id∈ids→ρ' (look π id)=ρ id) {a:AV} {v:Value} (H:Rel h ρ a v) (hc:zas ids a=true):Rel h ρ' (a.ren π) v:=by
 obtain ⟨ρ1,he,H'⟩:∃ ρ1,ρ=ρ1∧Rel h ρ1 a v:=⟨ρ,rfl,H⟩
 clear H
 induction H' with
 | any ρ v=>simp only [AV.ren];exact .any _ _
 | one _ _ h1=>simp only [AV.ren];exact .one _ _ h1
 | nilS=>simp only [AV.ren];exact .nilS _
 | nilFn=>simp only [AV.ren];exact .nilFn _
 | nilPtr=>simp only [AV.ren];exact .nilPtr _
 | nilMap=>simp only [AV.ren];exact .nilMap _
 | nilIfc=>simp only [AV.ren];exact .nilIfc _
 | bool=>simp only [AV.ren];exact .bool _ _
 | int=>simp only [AV.ren];exact .int _ _ _
 | agg ρ1 cs vs hl hc' ih=>
  simp only [AV.ren]
  refine .agg _ _ _ (by rw [zdr];exact hl) fun i c v h1 h2=>?_
  obtain ⟨c0,e1,rfl⟩:=zgA h1
  exact ih i c0 v e1 h2 (za1 (by simpa [zas] using hc) e1) he
 | tup ρ1 cs vs hl hc' ih=>
  simp only [AV.ren]
  refine .tup _ _ _ (by rw [zdr];exact hl) fun i c v h1 h2=>?_
  obtain ⟨c0,e1,rfl⟩:=zgA h1
  exact ih i c0 v e1 h2 (za1 (by simpa [zas] using hc) e1) he
 | ro ρ1 sz n e a cap hnil hcap hsz hs h1 hc' ih=>simp only [AV.ren];exact .ro _ _ _ _ _ _ hnil hcap hsz hs h1 hc'
 | rp ρ1 cs ad hs hc' ih=>simp only [AV.ren];exact .rp _ _ _ hs hc'
 | lp ρ1 id off b hb=>simp only [AV.ren];subst he;exact .lp _ _ _ _ ((hρ id (zaw (by simpa [zas] using hc))).trans hb)
 | buf ρ1 id n n' sz v v' hb hle h1 hq=>simp only [AV.ren];subst he;exact .buf _ _ _ _ _ _ _ ((hρ id (zaw (by simpa [zas] using hc))).trans hb) hle h1 hq
 | ep ρ1 id n i off n' sz v v' hb hle h1 hq=>simp only [AV.ren];subst he;exact .ep _ _ _ _ _ _ _ _ _ ((hρ id (zaw (by simpa [zas] using hc))).trans hb) hle h1 hq
 | fn ρ1 f fs cs vs ws hl hm hc' hd ih1 ih2=>
  simp only [zas] at hc
  split at hc
  · rename_i h0
    simp only [AV.ren]
    refine .fn _ _ _ _ _ _ (by rw [zdr];exact hl) (by rw [zdr];exact hm) (fun i c v h1 h2=>?_) (fun i c v h1 h2=>?_)
    · obtain ⟨c0,e1,rfl⟩:=zgA h1
      exact ih1 i c0 v e1 h2 (za1 h0 e1) he
    · obtain ⟨c0,e1,rfl⟩:=zgA h1
      exact ih2 i c0 v e1 h2 (za1 hc e1) he
  · cases hc
 | clo ρ1 f fs cs v hv ih=>simp only [AV.ren];exact .clo _ _ _ _ _ hv
 | mp ρ1 id li b hb hm=>simp only [AV.ren];subst he;exact .mp _ _ _ _ ((hρ id (zaw (by simpa [zas] using hc))).trans hb) hm
 | romN ρ1 z dom e hdom hz=>simp only [AV.ren];exact .romN _ _ _ _ hdom hz
 | pin ρ1 hp a v hl hv ih=>simp only [AV.ren];exact .pin _ _ _ _ hl hv
 | ns ρ1 b a v hv hn ih=>simp only [AV.ren];exact .ns _ _ _ _ (ih (by simpa [zas] using hc) he) hn
 | rom ρ1 z dom e n r es clock ks hR hks hlen hel hk hborn hbd hdom hz hc' ihz ih=>simp only [AV.ren];exact .rom _ _ _ _ _ _ _ _ _ hR hks hlen hel hk hborn hbd hdom hz hc'
 | ifc ρ1 t a v hv ih=>simp only [AV.ren];exact .ifc _ _ _ _ (ih (by simpa [zas] using hc) he)
 | cnd ρ1 g a v ht hf ih=>simp only [AV.ren];exact .cnd _ _ _ _ (fun hg=>ih hg (by simpa [zas] using hc) he) hf
 | raw=>simp only [AV.ren];exact .raw _ _
 | nz ρ1 n b hb=>simp only [AV.ren];exact .nz _ _ _ hb
 | po ρ1 b cs v ht hf ih=>simp only [AV.ren] at ih ⊢;exact .po _ _ _ _ (fun hg=>ih hg rfl he) hf
 | gb ρ1 id n li v hb hg h0=>simp only [AV.ren];subst he;exact .gb _ _ _ _ _ ((hρ id (zaw (by simpa [zas] using hc))).trans hb) hg h0
 | gp ρ1 id n i li ad hb hg=>simp only [AV.ren];subst he;exact .gp _ _ _ _ _ _ ((hρ id (zaw (by simpa [zas] using hc))).trans hb) hg
 | gr' ρ1 id i m li v hb hg h0=>simp only [AV.ren];subst he;exact .gr' _ _ _ _ _ _ ((hρ id (zaw (by simpa [zas] using hc))).trans hb) hg h0
 | sb ρ1 id n a b n' sz v v' hb hle h0 hq=>simp only [AV.ren];subst he;exact .sb _ _ _ _ _ _ _ _ _ ((hρ id (zaw (by simpa [zas] using hc))).trans hb) hle h0 hq
 | ge ρ1 id i m j off li v hb h0 hg=>simp only [AV.ren];subst he;exact .ge _ _ _ _ _ _ _ _ ((hρ id (zaw (by simpa [zas] using hc))).trans hb) h0 hg
theorem zbN.ren {h:Hp} {ρ ρ':Rho} {ids:List Nat} {π:List (Nat×Nat)} (hρ:∀ id,id∈ids→ρ' (look π id)=ρ id) {id:Nat} {x:Blk} {w:World} (H:zbN h ρ id x w) (hid:id∈ids) (ho:zeB ids x=true):zbN h ρ' (look π id) (x.ren π) w:=by
 cases x with
 | cells cs=>
  obtain ⟨b,vs,ty,q1,q2,q3,q4⟩:=H
  refine ⟨b,vs,ty,(hρ id hid).trans q1,q2,by rw [zdr];exact q3,fun i c v hc hv=>?_⟩
  obtain ⟨c0,e1,rfl⟩:=zgA hc
  exact (q4 i c0 v e1 hv).ren hρ (za1 (by simpa [zeB] using ho) e1)
 | buf ty sz n e=>obtain ⟨v,xs,q1,q2⟩:=H;exact ⟨v,xs,(hρ id hid).trans q1,q2⟩
 | map z dom e n=>obtain ⟨b,es,clock,ks,q1,q2⟩:=H;exact ⟨b,es,clock,ks,(hρ id hid).trans q1,q2⟩
 | iter e cur Pl=>obtain ⟨b,bm,clock,c0,es,seen,left,q1,q2⟩:=H;exact ⟨b,bm,clock,c0,es,seen,left,(hρ id hid).trans q1,q2⟩
 | bufk ty sz n c e=>obtain ⟨v,xs,q1,q2⟩:=H;exact ⟨v,xs,(hρ id hid).trans q1,q2⟩
 | dead=>obtain ⟨n,sz,q1⟩:=H;exact ⟨n,sz,(hρ id hid).trans q1⟩
 | grid tS ty sz n m e=>obtain ⟨v,rows,q1,q2⟩:=H;exact ⟨v,rows,(hρ id hid).trans q1,q2⟩
 | gmap ty sz n dom m e out=>exact H.zkR (fun a=>a.ren π) (hρ id hid) (fun j a v ha hr=>hr.ren hρ (by subst ha;exact ho))
 | rows ty sz hd dom m e out=>exact H.zkD (fun a=>a.ren π) (hρ id hid) (fun j a v ha hr=>hr.ren hρ (by subst ha;exact ho))
mutual
/-- Back: what holds by the new names holds by the old ones. -/
theorem Rel.unren {h:Hp} {ρ ρ':Rho} {ids:List Nat} {π:List (Nat×Nat)} (hρ:∀ id,id∈ids→ρ id=ρ' (look π id)):∀ (a:AV) {v:Value},Rel h ρ' (a.ren π) v→zas ids a=true→Rel h ρ a v
 | .any,v,H,hc=>.any _ _
 | .one,v,H,hc=>H.zdO rfl
 | .nilS,v,H,hc=>H.zdO rfl
 | .nilFn,v,H,hc=>H.zdO rfl
 | .nilPtr,v,H,hc=>H.zdO rfl
 | .nilMap,v,H,hc=>H.zdO rfl
 | .nilIfc,v,H,hc=>H.zdO rfl
 | .bool b,v,H,hc=>H.zdO rfl
 | .int k n,v,H,hc=>H.zdO rfl
 | .ro sz n e,v,H,hc=>H.zdO rfl
 | .rp cs,v,H,hc=>H.zdO rfl
 | .clo f a b,v,H,hc=>H.zdO rfl
 | .rom z d e n,v,H,hc=>H.zdO rfl
 | .raw u,v,H,hc=>H.zdO rfl
 | .pin hp u,v,H,hc=>H.zdO rfl
 | .nz n,v,H,hc=>H.zdO rfl
 | .po b cs,v,H,hc=>H.zdO rfl
 | .lp id off,v,H,hc=>by
  simp only [AV.ren] at H
  cases H with
  | lp _ _ _ b hb=>exact .lp _ _ _ _ ((hρ id (zaw (by simpa [zas] using hc))).trans hb)
 | .buf id n,v,H,hc=>by
  simp only [AV.ren] at H
  cases H with
  | buf _ _ _ n' sz _ v' hb hle h1 hq=>exact .buf _ _ _ _ _ _ _ ((hρ id (zaw (by simpa [zas] using hc))).trans hb) hle h1 hq
 | .ep id n i off,v,H,hc=>by
  simp only [AV.ren] at H
  cases H with
  | ep _ _ _ _ _ n' sz _ v' hb hle h1 hq=>exact .ep _ _ _ _ _ _ _ _ _ ((hρ id (zaw (by simpa [zas] using hc))).trans hb) hle h1 hq
 | .mp id,v,H,hc=>by
  simp only [AV.ren] at H
  cases H with
  | mp _ _ li b hb hm=>exact .mp _ _ _ _ ((hρ id (zaw (by simpa [zas] using hc))).trans hb) hm
 | .ns b v,u,H,hc=>by
  simp only [AV.ren] at H
  cases H with
  | ns _ _ _ _ hv hn=>exact .ns _ _ _ _ (Rel.unren hρ v hv (by simpa [zas] using hc)) hn
 | .gb id n,v,H,hc=>by
  simp only [AV.ren] at H
  cases H with
  | gb _ _ _ li _ hb hg h0=>exact .gb _ _ _ _ _ ((hρ id (zaw (by simpa [zas] using hc))).trans hb) hg h0
 | .gp id n i,v,H,hc=>by
  simp only [AV.ren] at H
  cases H with
  | gp _ _ _ _ li ad hb hg=>exact .gp _ _ _ _ _ _ ((hρ id (zaw (by simpa [zas] using hc))).trans hb) hg
 | .gr' id i m,v,H,hc=>by
  simp only [AV.ren] at H
  cases H with
  | gr' _ _ _ _ li _ hb hg h0=>exact .gr' _ _ _ _ _ _ ((hρ id (zaw (by simpa [zas] using hc))).trans hb) hg h0
 | .ge id i m j off,v,H,hc=>by
  simp only [AV.ren] at H
  cases H with
  | ge _ _ _ _ _ _ li _ hb h0 hg=>exact .ge _ _ _ _ _ _ _ _ ((hρ id (zaw (by simpa [zas] using hc))).trans hb) h0 hg
 | .sb id n a b,v,H,hc=>by
  simp only [AV.ren] at H
  cases H with
  | sb _ _ _ _ _ n' sz _ v' hb hle h0 hq=>exact .sb _ _ _ _ _ _ _ _ _ ((hρ id (zaw (by simpa [zas] using hc))).trans hb) hle h0 hq
 | .agg cs,v,H,hc=>by
  simp only [AV.ren] at H
  cases H with
  | agg _ _ vs hl hr=>exact .agg _ _ _ (by rw [hl,zdr]) (fun i c v h1 h2=>Rel.zi2 hρ cs (by simpa [zas] using hc) i c v h1 (hr i _ v (zg7 h1) h2))
 | .tup cs,v,H,hc=>by
  simp only [AV.ren] at H
  cases H with
  | tup _ _ vs hl hr=>exact .tup _ _ _ (by rw [hl,zdr]) (fun i c v h1 h2=>Rel.zi2 hρ cs (by simpa [zas] using hc) i c v h1 (hr i _ v (zg7 h1) h2))
 | .fn f fs cs,v,H,hc=>by
  simp only [AV.ren] at H
  simp only [zas] at hc
  split at hc
  · rename_i h0
    cases H with
    | fn _ _ _ _ vs ws hl hm h1 h2=>exact .fn _ _ _ _ _ _ (by rw [hl,zdr]) (by rw [hm,zdr]) (fun i c v q1 q2=>Rel.zi2 hρ fs h0 i c v q1 (h1 i _ v (zg7 q1) q2)) (fun i c v q1 q2=>Rel.zi2 hρ cs hc i c v q1 (h2 i _ v (zg7 q1) q2))
  · cases hc
 | .ifc t a,v,H,hc=>by
  simp only [AV.ren] at H
  cases H with
  | ifc _ _ _ u hv=>exact .ifc _ _ _ _ (Rel.unren hρ a hv (by simpa [zas] using hc))
 | .cnd g a,v,H,hc=>by
  simp only [AV.ren] at H
  cases H with
  | cnd _ _ _ _ ht hf=>exact .cnd _ _ _ _ (fun hg=>Rel.unren hρ a (ht hg) (by simpa [zas] using hc)) hf
theorem Rel.zi2 {h:Hp} {ρ ρ':Rho} {ids:List Nat} {π:List (Nat×Nat)} (hρ:∀ id,id∈ids→ρ id=ρ' (look π id)):∀ (cs:List AV),zdh ids cs=true→∀ (i:Nat) (c:AV) (v:Value),cs[i]? = some c→Rel h ρ' (c.ren π) v→Rel h ρ c v
 | [],_,i,c,v,h1,_=>by simp at h1
 | x::cs,hc,0,c,v,h1,H=>by
  simp only [List.getElem?_cons_zero,Option.some.injEq] at h1
  simp only [zdh] at hc
  split at hc
  · rename_i h0
    rw [← h1] at H ⊢
    exact Rel.unren hρ x H h0
  · cases hc
 | x::cs,hc,i+1,c,v,h1,H=>by
  simp only [List.getElem?_cons_succ] at h1
  simp only [zdh] at hc
  split at hc
  · exact Rel.zi2 hρ cs hc i c v h1 H
  · cases hc
end
theorem zkF {π:List (Nat×Nat)} {ids:List Nat} (hinj:∀ i j,i∈ids→j∈ids→look π i=look π j→i=j):∀ {B:List (Nat×Blk)},(∀ i,i∈zaz B→i∈ids)→∀ i,i∈ids→mm (renB π B) (look π i)=(mm B i).map (·.ren π)
 | [],_,i,_=>rfl
 | (j,b)::r,h,i,hi=>by
  simp only [renB,mm]
  by_cases e:i=j
  · subst e;simp [upd]
  · rw [zae _ _ e,zae _ _ (fun q=>e (hinj i j hi (h j (List.mem_cons_self ..)) q))]
    exact zkF hinj (fun i hi=>h i (List.mem_cons_of_mem _ hi)) i hi
theorem zhC {π:List (Nat×Nat)}:∀ {B:List (Nat×Blk)},zaz (renB π B)=(zaz B).map (look π)
 | []=>rfl
 | (j,b)::r=>by simp [renB,zaz,zhC (B:=r)]
def zmE (π:List (Nat×Nat)):List Nat→Bool
 | []=>true
 | i::r=>match zbf (r.map (look π)) (look π i) with
  | true=>match zbf r i with
   | true=>zmE π r
   | false=>false
  | false=>zmE π r
theorem zfk {π:List (Nat×Nat)}:∀ {l:List Nat},zmE π l=true→∀ i j,i∈l→j∈l→look π i=look π j→i=j
 | [],_,i,j,h,_,_=>by cases h
 | x::l,hi,i,j,h1,h2,e=>by
  simp only [zmE] at hi
  have key:zmE π l=true∧∀ k,k∈l→look π x=look π k→x∈l:=by
   split at hi
   · split at hi
     · rename_i h3;exact ⟨hi,fun _ _ _=>zaw h3⟩
     · cases hi
   · rename_i h3
     refine ⟨hi,fun k hk e=>?_⟩
     rw [zdZ (by rw [e];exact List.mem_map_of_mem hk)] at h3;cases h3
  obtain ⟨k1,k2⟩:=key
  rcases List.mem_cons.1 h1 with rfl|h3 <;> rcases List.mem_cons.1 h2 with rfl|h4
  · rfl
  · exact zfk k1 i j (k2 j h4 e) h4 e
  · exact zfk k1 i j h3 (k2 i h3 e.symm) e
  · exact zfk k1 i j h3 h4 e
theorem CtrO.ren {P:Program} {f:FuncId} {args:List AV} {A B:List (Nat×Blk)} {v:AV} (H:CtrO P f args A v B) (π:List (Nat×Nat)) (ha:zdh (zaz A) args=true:=by rfl) (hA:zcZ (zaz A) A=true:=by rfl) (hv:zas (zaz B) v=true:=by rfl) (hB:zcZ (zaz B) B=true:=by rfl) (hi:zmE π (zaz A++zaz B)=true:=by rfl) :
 CtrO P f (renL π args) (renB π A) (v.ren π) (renB π B):=by
 have hinj:=zfk hi
 have iA:∀ i j,i∈zaz A→j∈zaz A→look π i=look π j→i=j:=fun i j h1 h2=>hinj i j (List.mem_append_left _ h1) (List.mem_append_left _ h2)
 have iB:∀ i j,i∈zaz B→j∈zaz B→look π i=look π j→i=j:=fun i j h1 h2=>hinj i j (List.mem_append_right _ h1) (List.mem_append_right _ h2)
 refine ⟨H.1,fun h w ρ vs hR hp O=>?_⟩
 classical
 let ρ2:Rho:=fun j=>if j∈zaz A then ρ (look π j) else none
 have h2:∀ j,j∈zaz A→ρ2 j=ρ (look π j):=fun j hj=>if_pos hj
 have hinv:∀ j li,ρ2 j=some li→j∈zaz A∧ρ (look π j)=some li:=fun j li hj=>by
  have:(if j∈zaz A then ρ (look π j) else none)=some li:=hj
  split at this
  · exact ⟨by assumption,this⟩
  · cases this
 have hback:∀ i li,ρ i=some li→∃ j,j∈zaz A∧i=look π j:=fun i li hi=>by
  have:i∈zaz (renB π A):=Classical.byContradiction fun hn=>by rw [O.dom i (zmw hn)] at hi;cases hi
  rw [zhC] at this
  obtain ⟨j,q1,q2⟩:=List.mem_map.1 this
  exact ⟨j,q1,q2.symm⟩
 have hset:∀ b,zcw ρ2 b↔zcw ρ b:=fun b=>by
  constructor
  · rintro ⟨j,li,q1,q2⟩
    exact ⟨_,li,(hinv j li q1).2,q2⟩
  · rintro ⟨i,li,q1,q2⟩
    obtain ⟨j,q3,rfl⟩:=hback i li q1
    exact ⟨j,li,(h2 j q3).trans q1,q2⟩
 have hmA:∀ j,j∈zaz A→mm (renB π A) (look π j)=(mm A j).map (·.ren π):=zkF iA (fun _ h=>h)
 have hR2:RelL h ρ2 args vs:=⟨by rw [hR.1,zdr],fun i c v hc hv=>Rel.zi2 h2 args ha i c v hc (hR.2 i _ v (zg7 hc) hv)⟩
 have hO2:Ownd h ρ2 A w:=by
  refine ⟨fun j y hj=>?_,fun j hj=>?_,fun j li b q3 q4=>O.own _ li b (hinv j li q3).2 q4,fun j j' li li' b q3 q3' q4 q4'=>?_⟩
  · have hjA:j∈zaz A:=zdu.2 (by rw [hj];rfl)
    have:=O.blk (look π j) (y.ren π) (by rw [hmA j hjA,hj];rfl)
    have ho:=zfg hA j y hj
    cases y with
    | cells cs=>
     obtain ⟨b,us,ty,q1,q2,q3,q4⟩:=this
     exact ⟨b,us,ty,(h2 j hjA).trans q1,q2,by rw [q3,zdr],fun i c v hc hv=>Rel.zi2 h2 cs (by simpa [zeB] using ho) i c v hc (q4 i _ v (zg7 hc) hv)⟩
    | buf ty sz n e=>obtain ⟨v,xs,q1,q2⟩:=this;exact ⟨v,xs,(h2 j hjA).trans q1,q2⟩
    | map z dom e n=>obtain ⟨b,es,clock,ks,q1,q2⟩:=this;exact ⟨b,es,clock,ks,(h2 j hjA).trans q1,q2⟩
    | iter e cur Pl=>obtain ⟨b,bm,clock,c0,es,seen,left,q1,q2⟩:=this;exact ⟨b,bm,clock,c0,es,seen,left,(h2 j hjA).trans q1,q2⟩
    | bufk ty sz n c e=>obtain ⟨v,xs,q1,q2⟩:=this;exact ⟨v,xs,(h2 j hjA).trans q1,q2⟩
    | dead=>obtain ⟨n,sz,q1⟩:=this;exact ⟨n,sz,(h2 j hjA).trans q1⟩
    | grid tS ty sz n m e=>obtain ⟨v,rows,q1,q2⟩:=this;exact ⟨v,rows,(h2 j hjA).trans q1,q2⟩
    | gmap ty sz n dom m e out=>
     obtain ⟨b,es,clock,ks,R,g1,g2,g3,g4,g5,g6,g7,g8,g9,g10,g11,g12,g13⟩:=this
     refine ⟨b,es,clock,ks,R,(h2 j hjA).trans g1,g2,g3,g4,g5,g6,g7,g8,g9,fun i k x hk hx=>⟨fun a ha=>?_,fun ha=>(g10 i k x hk hx).2 (fun a e=>?_)⟩,fun k a ha=>?_,g12,g13⟩
     · exact Rel.unren h2 a ((g10 i k x hk hx).1 _ (by rw [ha];rfl)) (by subst ha;exact ho)
     · obtain ⟨a0,e1,_⟩:=zf7 e;exact ha a0 e1
     · exact ⟨(g11 k _ (by rw [ha];rfl)).1,fun hd=>Rel.unren h2 a ((g11 k _ (by rw [ha];rfl)).2 hd) (by subst ha;exact ho)⟩
    | rows ty sz hd dom m e out=>
     obtain ⟨R,g1,g2,g3,g4⟩:=this
     refine ⟨R,(h2 j hjA).trans g1,fun k hk=>g2 k (fun a e=>?_),fun k a ha=>⟨(g3 k _ (by rw [ha];rfl)).1,Rel.unren h2 a (g3 k _ (by rw [ha];rfl)).2 (by subst ha;exact ho)⟩,g4⟩
     obtain ⟨a0,e1,_⟩:=zf7 e;exact hk a0 e1
  · cases hq:ρ2 j with
    | none=>rfl
    | some li=>
     have:=zdu.1 (hinv j li hq).1
     rw [hj] at this;cases this
  · exact iA j j' (hinv j li q3).1 (hinv j' li' q3').1 (O.inj _ _ li li' b (hinv j li q3).2 (hinv j' li' q3').2 q4 q4')
 refine (H.2 h w ρ2 _ hR2 hp hO2).mono (fun en w' he=>?_)
 cases en with
 | panicked ch=>exact he.elim
 | outgrown=>exact he.elim
 | returned x=>
 obtain ⟨h',ρ3,p1,p2,p3,p4,p5,p6,p7,p8,p9,p10,p11⟩:=he
 let ρ':Rho:=fun i=>if hx:∃ j,j∈zaz B∧look π j=i then ρ3 (Classical.choose hx) else none
 have hin:∀ j,j∈zaz B→ρ' (look π j)=ρ3 j:=fun j hj=>by
  have hx:∃ k,k∈zaz B∧look π k=look π j:=⟨j,hj,rfl⟩
  have e1:ρ' (look π j)=ρ3 (Classical.choose hx):=dif_pos hx
  obtain ⟨q1,q2⟩:=Classical.choose_spec hx
  rw [e1,iB _ _ q1 hj q2]
 have hout:∀ i li,ρ' i=some li→∃ j,j∈zaz B∧i=look π j∧ρ3 j=some li:=fun i li hi=>by
  by_cases hx:∃ j,j∈zaz B∧look π j=i
  · obtain ⟨j,q1,rfl⟩:=hx
    exact ⟨j,q1,rfl,(hin j q1).symm.trans hi⟩
  · have:ρ' i=none:=dif_neg hx
    rw [this] at hi;cases hi
 have hmB:∀ j,j∈zaz B→mm (renB π B) (look π j)=(mm B j).map (·.ren π):=zkF iB (fun _ h=>h)
 refine ⟨h',ρ',p1,p2,p3,p4,fun kk hk hn=>p5 kk hk (fun ho=>hn ((hset kk).1 ho)),p6,p7,p8.ren (ids:=zaz B) hin hv,⟨fun i y hy=>?_,fun i hy=>?_,fun i li b q1 q2=>?_,fun i i' li li' b q1 q1' q2 q2'=>?_⟩,fun i li b q1 q2=>?_,fun i li li' q1 q2=>?_⟩
 · have hi:i∈zaz (renB π B):=zdu.2 (by rw [hy];rfl)
   rw [zhC] at hi
   obtain ⟨j,q1,rfl⟩:=List.mem_map.1 hi
   rw [hmB j q1] at hy
   obtain ⟨y0,q2,rfl⟩:=Option.map_eq_some_iff.1 hy
   exact (p9.blk j y0 q2).ren (ids:=zaz B) hin q1 (zfg hB j y0 q2)
 · cases hq:ρ' i with
   | none=>rfl
   | some li=>
    obtain ⟨j,q1,rfl,q2⟩:=hout i li hq
    rw [hmB j q1] at hy
    have:=zdu.1 q1
    cases hz:mm B j with
    | none=>rw [hz] at this;cases this
    | some z=>rw [hz] at hy;cases hy
 · obtain ⟨j,q3,rfl,q4⟩:=hout i li q1
   exact p9.own j li b q4 q2
 · obtain ⟨j,q3,rfl,q4⟩:=hout i li q1
   obtain ⟨j',q3',rfl,q4'⟩:=hout i' li' q1'
   rw [p9.inj j j' li li' b q4 q4' q2 q2']
 · obtain ⟨j,q3,rfl,q4⟩:=hout i li q1
   exact (p10 j li b q4 q2).imp (fun h=>(hset b).1 h) id
 · obtain ⟨j,q3,rfl,q4⟩:=hout i li' q2
   obtain ⟨j2,q5,q6⟩:=hback _ li q1
   have:j=j2:=hinj j j2 (List.mem_append_right _ q3) (List.mem_append_left _ q5) q6
   subst this
   exact p11 j li li' ((h2 j q5).trans q1) q4
theorem CtrO.sim {P:Program} {f:FuncId} {args args':List AV} {A A' B:List (Nat×Blk)} {v:AV} (H:CtrO P f args' A' v B) (hs:SimL args args') (hM:AgreeM A A'):CtrO P f args A v B:=by
 refine ⟨H.1,fun h w ρ vs hR hp O=>H.2 h w ρ vs ⟨by rw [hR.1,hs.spec.1],fun i c u hc hu=>?_⟩ hp ⟨fun id y hy=>?_,fun id hy=>O.dom id (((hM.spec id).1).1 hy),O.own,O.inj⟩⟩
 · obtain ⟨l1,l2⟩:=hs.spec
   have hi:i<args.length:=by rw [l1];exact (List.getElem?_eq_some_iff.1 hc).1
   exact l2 i _ c (List.getElem?_eq_getElem hi) hc h ρ u (hR.2 i _ u (List.getElem?_eq_getElem hi) hu)
 · obtain ⟨x,q1,q2⟩:=(hM.spec id).2 y hy
   exact q2 h ρ id w (O.blk id x q1)
theorem BSim.cells {xs ys:List AV} (hs:SimL xs ys):BSim (.cells xs) (.cells ys):=by
 intro h ρ id w H
 obtain ⟨b,vs,ty,q1,q2,q3,q4⟩:=H
 obtain ⟨l1,l2⟩:=hs.spec
 refine ⟨b,vs,ty,q1,q2,by rw [q3,l1],fun i c v hc hv=>?_⟩
 have hi:i<xs.length:=by rw [l1];exact (List.getElem?_eq_some_iff.1 hc).1
 exact l2 i _ c (List.getElem?_eq_getElem hi) hc h ρ v (q4 i _ v (List.getElem?_eq_getElem hi) hv)
end Go.Av
end
/- Owned results of several blocks: names changed at the return; empty slices within temporaries. -/
section
set_option linter.all false
namespace Go.Av
section
variable {N:Nat} {C:Ctx} {L:List (Nat×AV)} {M:List (Nat×Blk)} {g:Nat}
theorem zqH {π:List (Nat×Nat)}:∀ {L:List (Nat×AV)} (t:Nat),fr (L.map fun x=>(x.1,x.2.ren π)) t=(fr L t).ren π
 | [],t=>by simp only [List.map_nil,fr,AV.ren]
 | (u,v)::r,t=>by
  simp only [List.map_cons,fr,put]
  split
  · rfl
  · exact zqH t
theorem At.ren {w0:World} {h0:Hp} {br:Nat→Prop} {R:Act→World→Prop} (π:List (Nat×Nat)) {K ts:List Nat} {L':List (Nat×AV)} {M':List (Nat×Blk)} (hL:zhI K L ts=some L') (hM:zdA K M K=some M') (hk:zaz M'=K) (hB:zcZ K M'=true) (hi:zmE π K=true)
 (H:At N (Cq w0 h0 [] [] br) (L'.map fun x=>(x.1,x.2.ren π)) (renB π M') g R):At N (Cq w0 h0 [] [] br) L M g R:=by
 intro h ρ0' a w I0
 obtain ⟨ρ,_,I⟩:=I0.forget hL hM rfl
 classical
 have hinj:=zfk hi
 let ρ':Rho:=fun i=>if hx:∃ j,j∈K∧look π j=i then ρ (Classical.choose hx) else none
 have hin:∀ j,j∈K→ρ' (look π j)=ρ j:=fun j hj=>by
  have hx:∃ k,k∈K∧look π k=look π j:=⟨j,hj,rfl⟩
  have e1:ρ' (look π j)=ρ (Classical.choose hx):=dif_pos hx
  obtain ⟨q1,q2⟩:=Classical.choose_spec hx
  rw [e1,hinj _ _ q1 hj q2]
 have hout:∀ i li,ρ' i=some li→∃ j,j∈K∧i=look π j∧ρ j=some li:=fun i li hi=>by
  by_cases hx:∃ j,j∈K∧look π j=i
  · obtain ⟨j,q1,rfl⟩:=hx
    exact ⟨j,q1,rfl,(hin j q1).symm.trans hi⟩
  · have:ρ' i=none:=dif_neg hx
    rw [this] at hi;cases hi
 have hmB:∀ j,j∈K→mm (renB π M') (look π j)=(mm M' j).map (·.ren π):=zkF hinj (fun i hi=>hk▸hi)
 refine H h ρ' a w { I with slot:=fun t=>?_,sav:=⟨rfl,fun i c v h1=>by simp [Cq] at h1⟩,blk:=fun i y hy=>?_,dom:=fun i hy=>?_,own:=fun i li b q1 q2=>?_,inj:=fun i i' li li' b q1 q1' q2 q2'=>?_,gst:=?_ }
 · rw [zqH]
   rcases zgH hL t with e|⟨e,ho⟩
   · rw [e];exact .any _ _
   · exact (I.slot t).ren (ids:=K) hin ho
 · have hi:i∈zaz (renB π M'):=zdu.2 (by rw [hy];rfl)
   rw [zhC] at hi
   obtain ⟨j,q1,rfl⟩:=List.mem_map.1 hi
   rw [hk] at q1
   rw [hmB j q1] at hy
   obtain ⟨y0,q2,rfl⟩:=Option.map_eq_some_iff.1 hy
   exact (I.blk j y0 q2).ren (ids:=K) hin q1 (zfg hB j y0 q2)
 · cases hq:ρ' i with
   | none=>rfl
   | some li=>
    obtain ⟨j,q1,rfl,q2⟩:=hout i li hq
    rw [hmB j q1] at hy
    have:=zdu.1 (hk▸q1:j∈zaz M')
    cases hz:mm M' j with
    | none=>rw [hz] at this;cases this
    | some z=>rw [hz] at hy;cases hy
 · obtain ⟨j,q3,rfl,q4⟩:=hout i li q1
   exact I.own j li b q4 q2
 · obtain ⟨j,q3,rfl,q4⟩:=hout i li q1
   obtain ⟨j',q3',rfl,q4'⟩:=hout i' li' q1'
   rw [I.inj j j' li li' b q4 q4' q2 q2']
 · obtain ⟨X,x1,x2,x3⟩:=I.gst
   refine ⟨X,fun b ⟨i,li,q1,q2⟩=>?_,x2,x3⟩
   obtain ⟨j,q3,rfl,q4⟩:=hout i li q1
   exact x1 b ⟨j,li,q4,q2⟩
end
end Go.Av
end
/- An owned slice is only read from now on, wherever it is named. -/
section
set_option linter.all false
namespace Go.Av
mutual
/-- A value in which a name is read as what it stands for; what must hold for it. -/
def fz (id n':Nat) (r:AV) (K:List Nat):AV→Option (AV×List Prop)
 | .buf i n=>match Nat.beq i id with
  | true=>some (r,[n=n'])
  | false=>match zbf K i with
   | true=>some (.buf i n,[])
   | false=>none
 | .agg cs=>match fzL id n' r K cs with
  | some (cs',ps)=>some (.agg cs',ps)
  | none=>none
 | .tup cs=>match fzL id n' r K cs with
  | some (cs',ps)=>some (.tup cs',ps)
  | none=>none
 | v=>match zas K v with
  | true=>some (v,[])
  | false=>none
def fzL (id n':Nat) (r:AV) (K:List Nat):List AV→Option (List AV×List Prop)
 | []=>some ([],[])
 | c::cs=>match fz id n' r K c with
  | some (c',ps)=>match fzL id n' r K cs with
   | some (cs',qs)=>some (c'::cs',appP ps qs)
   | none=>none
  | none=>none
end
theorem zqf {id n':Nat} {r:AV} {K:List Nat} {x y:AV} {ps:List Prop} (h:fz id n' r K x=some (y,ps)) (h1:∀ i n,x ≠ .buf i n) (h2:∀ cs,x ≠ .agg cs) (h3:∀ cs,x ≠ .tup cs):zas K x=true∧y=x:=by
 cases x <;> first|exact absurd rfl (h1 _ _)|exact absurd rfl (h2 _)|exact absurd rfl (h3 _)|(simp only [fz] at h;split at h <;> cases h;exact ⟨by assumption,rfl⟩)
theorem zkS {id n':Nat} {r:AV} {K:List Nat}:∀ {cs cs':List AV} {ps:List Prop},fzL id n' r K cs=some (cs',ps)→cs'.length=cs.length ∧
 ∀ (i:Nat) (c':AV),cs'[i]? = some c'→∃ c qs,cs[i]? = some c∧fz id n' r K c=some (c',qs)∧∀ q,q∈qs→q∈ps
 | [],cs',ps,h=>by
  simp only [fzL] at h;cases h
  exact ⟨rfl,fun i c' hc=>(by simp at hc)⟩
 | c::cs,cs',ps,h=>by
  simp only [fzL] at h
  split at h
  · rename_i d qs hd
    split at h
    · rename_i ds rs hds
      cases h
      obtain ⟨h1,h2⟩:=zkS hds
      refine ⟨by simp [h1],fun i c' hc=>?_⟩
      cases i with
      | zero=>simp at hc;subst hc;exact ⟨c,qs,rfl,hd,fun q hq=>zdU.2 (.inl hq)⟩
      | succ i=>
       obtain ⟨c0,q0,e1,e2,e3⟩:=h2 i c' (by simpa using hc)
       exact ⟨c0,q0,by simpa using e1,e2,fun q hq=>zdU.2 (.inr (e3 q hq))⟩
    · cases h
  · cases h
theorem Rel.fz {h h':Hp} {ρ ρ':Rho} {id n' sz:Nat} {v0:Value} {r:AV} {K:List Nat} (hle:Le h h') (hρ:∀ i,i∈K→ρ' i=ρ i) (hid:ρ id=some (.sl n' sz v0)) (hr:Rel h' ρ' r v0) {x:AV} {v:Value} (H:Rel h ρ x v) :
 ∀ {y:AV} {ps:List Prop},Go.Av.fz id n' r K x=some (y,ps)→(∀ q,q∈ps→q)→Rel h' ρ' y v:=by
 obtain ⟨h9,hh,H'⟩:∃ h9,h=h9∧Rel h9 ρ x v:=⟨h,rfl,H⟩
 clear H
 induction H' with
 | buf ρ i n n2 sz2 v v' hb hl h1 he=>
  intro y ps hy hp
  simp only [Go.Av.fz] at hy
  split at hy
  · rename_i hi
    cases hy
    have:=Nat.eq_of_beq_eq_true hi
    subst this
    have hn:n=n':=hp _ (List.mem_cons_self ..)
    rw [hid] at hb;cases hb
    rw [he hn];exact hr
  · split at hy
    · rename_i hk
      cases hy
      exact .buf _ _ _ _ _ _ _ ((hρ i (zaw hk)).trans hb) hl h1 he
    · cases hy
 | agg ρ cs vs hl hc ih=>
  intro y ps hy hp
  simp only [Go.Av.fz] at hy
  split at hy
  · rename_i cs' qs hcs
    cases hy
    obtain ⟨e1,e2⟩:=zkS hcs
    refine .agg _ _ _ (by rw [hl,e1]) fun i c v h1 h2=>?_
    obtain ⟨c0,q0,k1,k2,k3⟩:=e2 i c h1
    exact ih i c0 v k1 h2 hρ hid hh k2 (fun q hq=>hp q (k3 q hq))
  · cases hy
 | tup ρ cs vs hl hc ih=>
  intro y ps hy hp
  simp only [Go.Av.fz] at hy
  split at hy
  · rename_i cs' qs hcs
    cases hy
    obtain ⟨e1,e2⟩:=zkS hcs
    refine .tup _ _ _ (by rw [hl,e1]) fun i c v h1 h2=>?_
    obtain ⟨c0,q0,k1,k2,k3⟩:=e2 i c h1
    exact ih i c0 v k1 h2 hρ hid hh k2 (fun q hq=>hp q (k3 q hq))
  · cases hy
 | _=>
  intro y ps hy hp
  obtain ⟨ho,rfl⟩:=zqf hy (fun _ _ e=>by cases e) (fun _ e=>by cases e) (fun _ e=>by cases e)
  subst hh
  refine Rel.forget hρ (Rel.heap ?_ hle) ho
  first|(constructor <;> assumption)|(constructor;done)
def fzS (id n':Nat) (r:AV) (K:List Nat) (L:List (Nat×AV)):List Nat→Option (List (Nat×AV)×List Prop)
 | []=>some ([],[])
 | t::ts=>match zgS L t with
  | some x=>match fz id n' r K x with
   | some (y,ps)=>match fzS id n' r K L ts with
    | some (L',qs)=>some ((t,y)::L',appP ps qs)
    | none=>none
   | none=>none
  | none=>none
def fzB (id n':Nat) (r:AV) (K:List Nat):Blk→Option (Blk×List Prop)
 | .cells cs=>match fzL id n' r K cs with
  | some (cs',ps)=>some (.cells cs',ps)
  | none=>none
 | b=>match zeB K b with
  | true=>some (b,[])
  | false=>none
def fzM (id n':Nat) (r:AV) (K:List Nat) (M:List (Nat×Blk)):List Nat→Option (List (Nat×Blk)×List Prop)
 | []=>some ([],[])
 | t::ts=>match mm M t with
  | some x=>match fzB id n' r K x with
   | some (y,ps)=>match fzM id n' r K M ts with
    | some (M',qs)=>some ((t,y)::M',appP ps qs)
    | none=>none
   | none=>none
  | none=>none
theorem znv {id n':Nat} {r:AV} {K:List Nat} {L:List (Nat×AV)}:∀ {ts:List Nat} {L':List (Nat×AV)} {ps:List Prop},fzS id n' r K L ts=some (L',ps) →
 ∀ t,fr L' t = .any∨∃ qs,fz id n' r K (fr L t)=some (fr L' t,qs)∧∀ q,q∈qs→q∈ps
 | [],L',ps,h,t=>by simp only [fzS] at h;cases h;exact .inl rfl
 | u::ts,L',ps,h,t=>by
  simp only [fzS] at h
  split at h
  · rename_i x hx
    split at h
    · rename_i y qs hy
      split at h
      · rename_i L2 rs h2
        cases h
        simp only [fr,put]
        split
        · rename_i hb
          have:=Nat.eq_of_beq_eq_true hb
          subst this
          rw [zhH hx]
          exact .inr ⟨qs,hy,fun q hq=>zdU.2 (.inl hq)⟩
        · rcases znv h2 t with e|⟨q0,e1,e2⟩
          · exact .inl e
          · exact .inr ⟨q0,e1,fun q hq=>zdU.2 (.inr (e2 q hq))⟩
      · cases h
    · cases h
  · cases h
theorem znw {id n':Nat} {r:AV} {K:List Nat} {M:List (Nat×Blk)}:∀ {ts:List Nat} {M':List (Nat×Blk)} {ps:List Prop},fzM id n' r K M ts=some (M',ps) →
 (∀ t,t∈ts→(mm M' t).isSome=true)∧∀ t y,mm M' t=some y→t∈ts∧∃ x qs,mm M t=some x∧fzB id n' r K x=some (y,qs)∧∀ q,q∈qs→q∈ps
 | [],M',ps,h=>by simp only [fzM] at h;cases h;exact ⟨fun t ht=>(by cases ht),fun t y hy=>(by cases hy)⟩
 | u::ts,M',ps,h=>by
  simp only [fzM] at h
  split at h
  · rename_i x hx
    split at h
    · rename_i y qs hy
      split at h
      · rename_i L2 rs h2
        cases h
        obtain ⟨k1,k2⟩:=znw h2
        refine ⟨fun t ht=>?_,fun t z hz=>?_⟩
        · simp only [mm]
          by_cases e:t=u
          · subst e;rw [zaf];rfl
          · rw [zae _ _ e]
            exact k1 t ((List.mem_cons.1 ht).resolve_left e)
        · simp only [mm] at hz
          by_cases e:t=u
          · subst e;rw [zaf] at hz;cases hz
            exact ⟨List.mem_cons_self ..,x,qs,hx,hy,fun q hq=>zdU.2 (.inl hq)⟩
          · rw [zae _ _ e] at hz
            obtain ⟨e0,x2,q2,e1,e2,e3⟩:=k2 t z hz
            exact ⟨List.mem_cons_of_mem _ e0,x2,q2,e1,e2,fun q hq=>zdU.2 (.inr (e3 q hq))⟩
      · cases h
    · cases h
  · cases h
section
variable {N:Nat} {C:Ctx} {L:List (Nat×AV)} {M:List (Nat×Blk)} {g:Nat} {R:Act→World→Prop}
theorem At.zq7 (id:Nat) {ty sz n':Nat} {e:Nat→List AV} {K ts:List Nat} {L':List (Nat×AV)} {M':List (Nat×Blk)} {ps qs:List Prop} (hM:mm M id=some (.buf ty sz n' e)) (hK:zbf K id=false)
 (hL:fzS id n' (.ro sz n' e) K L ts=some (L',ps)) (hMK:fzM id n' (.ro sz n' e) K M K=some (M',qs)) (hps:AllP ps) (hqs:AllP qs)
 (hbor:∀ b,¬ C.bor b) (Kk:At N C L' M' g R) (hs:zdh K C.savA=true:=by rfl):At N C L M g R:=by
 intro h ρ a w I
 have hps:=hps.mem
 have hqs:=hqs.mem
 obtain ⟨v,us,k1,k2,k3,k5,k4⟩:=I.blk id _ hM
 obtain ⟨m1,m2⟩:=znw hMK
 have hidK:id ∉ K:=fun hk=>by rw [zeH hk] at hK;cases hK
 classical
 let h':Hp:=fun b=>if v.ownBlock=some b then w.heap[b]? else h b
 let ρ':Rho:=fun i=>if i∈K then ρ i else none
 have hρ:∀ i,i∈K→ρ' i=ρ i:=fun i hi=>if_pos hi
 have hρ':∀ i li,ρ' i=some li→i∈K∧ρ i=some li:=fun i li hi=>by
  have:(if i∈K then ρ i else none)=some li:=hi
  split at this
  · exact ⟨by assumption,this⟩
  · cases this
 have hin:∀ b,v.ownBlock=some b→h' b=w.heap[b]? := fun b hb=>if_pos hb
 have hle:∀ b o,h b=some o→h' b=some o:=by
  intro b o hb
  show (if v.ownBlock=some b then w.heap[b]? else h b)=some o
  split
  · exact I.hp b o hb
  · exact hb
 have hge:∀ b,v.ownBlock=some b→C.w0.heap.size≤b:=fun b hb=>(I.own id _ b k1 hb).2.2.resolve_right (hbor b)
 have hnew:∀ b o,h' b=some o→(v.ownBlock=some b∧w.heap[b]? = some o)∨h b=some o:=by
  intro b o hb
  have:(if v.ownBlock=some b then w.heap[b]? else h b)=some o:=hb
  split at this
  · exact .inl ⟨by assumption,this⟩
  · exact .inr this
 have hr:Rel h' ρ' (.ro sz n' e) v:=(zeb k2 (fun b hb=>hin b hb) k3 k5 (fun i j c x a1 a2 a3=>(k4 i j c x a1 a2 a3).heap (Le.of hle))).closed
 refine Kk h' ρ' a w { I with slot:=fun t=>?_,sav:=⟨I.sav.1,fun i c x h1 h2=>((I.sav.2 i c x h1 h2).heap (Le.of hle)).forget hρ (za1 hs h1)⟩,hp:=fun b o hb=>?_,blk:=fun i y hy=>?_,dom:=fun i hi=>?_,own:=fun i li b q1 q2=>?_,inj:=fun i i' li li' b q1 q1' q2 q2'=>I.inj i i' li li' b (hρ' _ _ q1).2 (hρ' _ _ q1').2 q2 q2',ext:=fun b o hb=>hle b o (I.ext b o hb),old:=fun b o hb hlt=>?_,gst:=?_,dfr:=?_ }
 · rcases znv hL t with e1|⟨q0,e1,e2⟩
   · rw [e1];exact .any _ _
   · exact Rel.fz (Le.of hle) hρ k1 hr (I.slot t) e1 (fun q hq=>hps q (e2 q hq))
 · rcases hnew b o hb with q|q
   · exact q.2
   · exact I.hp b o q
 · obtain ⟨hik,x,q0,e1,e2,e3⟩:=m2 i y hy
   have H:=I.blk i x e1
   have other:∀ z,zeB K z=true→zbN h ρ i z w→zbN h' ρ' i z w:=fun z ho Hz=>((Hz.keep (Le.of hle) rfl (zcU _) (fun _ _ _ _=>rfl)).forget hρ hik ho)
   cases x with
   | cells cs=>
    simp only [fzB] at e2
    split at e2
    · rename_i cs' q2 hcs
      cases e2
      obtain ⟨b,vs,ty',z1,z2,z3,z4⟩:=H
      obtain ⟨l1,l2⟩:=zkS hcs
      refine ⟨b,vs,ty',(hρ i hik).trans z1,z2,by rw [z3,l1],fun j c u hc hu=>?_⟩
      obtain ⟨c0,q3,y1,y2,y3⟩:=l2 j c hc
      exact Rel.fz (Le.of hle) hρ k1 hr (z4 j c0 u y1 hu) y2 (fun q hq=>hqs q (e3 q (y3 q hq)))
    · cases e2
   | _=>
    simp only [fzB] at e2
    split at e2
    · rename_i ho
      cases e2
      exact other _ ho H
    · cases e2
 · cases hq:ρ' i with
   | none=>rfl
   | some li=>
    have:=m1 i (hρ' i li hq).1
    rw [hi] at this;cases this
 · obtain ⟨q3,q4⟩:=hρ' i li q1
   obtain ⟨z1,z2,z3⟩:=I.own i li b q4 q2
   refine ⟨?_,z2,z3⟩
   show (if v.ownBlock=some b then w.heap[b]? else h b)=none
   rw [if_neg (fun hv:v.ownBlock=some b=>hidK ((I.inj i id li _ b q4 k1 q2 hv)▸q3))]
   exact z1
 · rcases hnew b o hb with q|q
   · exact absurd hlt (Nat.not_lt.2 (hge b q.1))
   · exact I.old b o q hlt
 · obtain ⟨X,x1,x2,x3⟩:=I.gst
   refine ⟨X,fun b ⟨i,li,q1,q2⟩=>x1 b ⟨i,li,(hρ' i li q1).2,q2⟩,fun b o hb=>?_,x3⟩
   rcases hnew b o hb with q|q
   · exact .inr (x1 b ⟨id,_,k1,q.1⟩)
   · exact x2 b o q
 · obtain ⟨Ds,hd1,hd2,hd3⟩:=I.dfr
   exact ⟨Ds,hd1,hd2,fun D hD=>⟨hle _ _ (hd3 D hD).1,(hd3 D hD).2⟩⟩
end
end Go.Av
end
/- Rows that grow, at loops: no rows as rows that are owned; what rows hold. -/
section
set_option linter.all false
namespace Go.Av
open Go.Sp
section
variable {N:Nat} {C:Ctx} {L:List (Nat×AV)} {M:List (Nat×Blk)} {g:Nat}
end
end Go.Av
end
/- slices.Insert of one element into an owned row, out of walks of its body (which a claim prints for its program). -/
section
set_option linter.all false
namespace Go.Av
open Go Go.Lib
theorem zd4 {P:Program} (w:World) (dT sT ty elem:TypeId) (k g o dLen dCap:Nat) (a:Addr) (sLen sCap:Nat) (cur:Array Value) (t:TypeId) (cs:List Value)
 (hu:P.underlying dT=some (.slice elem)) (hs:(P.info? elem).map (·.size)=some k)
 (hg:w.heap[g]? = some (.cells cur t (0,0))) (hn:cs.length=Nat.min sLen dLen * k)
 (hsrc:∀ j v,cs[j]? = some v→w.cell? (a.add j)=some v) (hfit:o+cs.length≤cur.size) (h1:∀ v∈cs,v.oneCell'=true) :
 (Builtin.copy_ #[dT,sT] ty #[.slice (some ⟨g,o,none⟩) dLen dCap,.slice (some a) sLen sCap]).run P w =
  .ok (goInt (Nat.min sLen dLen)) (w.setRow g (cur.toList.take o++cs++cur.toList.drop (o+cs.length)).toArray):=by
 have hl:=run_loadCells_list (P:=P) w a cs hsrc
 have hst:=run_storeCells_at P g o t cs 0 cur w hg (by simpa using hfit) h1
 cases hq:P.info? elem with
 | none=>simp [hq] at hs
 | some i=>
  have hi:i.size=k:=by simpa [hq] using hs
  simp [Builtin.copy_,run_underlying hu,Builtin.lenOf,Builtin.firstCells,sizeOf,typeInfo,hq,hi,← hn,hl,hst]
structure InsW (P:Program) (f tS tI fo sz:Nat):Prop where
 shift:∀ (g n c i vb vc:Nat) (w W1 W2:World),i<n→n+1≤c→c≤9223372036854775807 →
  (∀ lb cb o,(callFunc fo #[.slice (some ⟨vb,0,none⟩) 1 vc,.slice (some ⟨g,o,none⟩) lb cb]).run P w = .ok (.value (.bool false)) w) →
  (∀ ty dc sc,(Builtin.copy_ #[tS,tS] ty #[.slice (some ⟨g,(i+1) * sz,none⟩) (n - i) dc,.slice (some ⟨g,i * sz,none⟩) (n+1 - i) sc]).run P w.drew = .ok (goInt (n - i)) W1) →
  (∀ ty dc,(Builtin.copy_ #[tS,tS] ty #[.slice (some ⟨g,i * sz,none⟩) (n+1 - i) dc,.slice (some ⟨vb,0,none⟩) 1 vc]).run P W1 = .ok (goInt 1) W2) →
  Calls P f #[.slice (some ⟨g,0,none⟩) n c,.int .i64 i,.slice (some ⟨vb,0,none⟩) 1 vc] w fun e w'=>e = .returned (.slice (some ⟨g,0,none⟩) (n+1) c)∧w'=W2
 end_:∀ (g n c vb vc:Nat) (w:World) (v':Value) (w':World),n≤c→c≤9223372036854775807 →
  (∀ ty,(Builtin.append_ #[tS,tS] ty #[.slice (some ⟨g,0,none⟩) n c,.slice (some ⟨vb,0,none⟩) 1 vc]).run P w = .ok v' w') →
  Calls P f #[.slice (some ⟨g,0,none⟩) n c,.int .i64 n,.slice (some ⟨vb,0,none⟩) 1 vc] w fun e w2=>e = .returned v'∧w2=w'
 nil_:∀ (vb vc:Nat) (w:World) (v':Value) (w':World),
  (∀ ty,(Builtin.append_ #[tS,tS] ty #[.slice none 0 0,.slice (some ⟨vb,0,none⟩) 1 vc]).run P w = .ok v' w') →
  Calls P f #[.slice none 0 0,.int .i64 0,.slice (some ⟨vb,0,none⟩) 1 vc] w fun e w2=>e = .returned v'∧w2=w'
 grow:∀ (g n c i vb vc g2 c2:Nat) (w W1 W2 W3:World),i<n→n≤c→c<n+1→n+1≤9223372036854775807→n+1≤c2→c2≤9223372036854775807 →
  (∀ ty,(Builtin.append_ #[tS,tI] ty #[.slice (some ⟨g,0,none⟩) i c,.int .i64 ((n:Int)+1 - (i:Int))]).run P w = .ok (.slice (some ⟨g2,0,none⟩) (n+1) c2) W1) →
  (∀ ty dc,(Builtin.copy_ #[tS,tS] ty #[.slice (some ⟨g2,i * sz,none⟩) (n+1 - i) dc,.slice (some ⟨vb,0,none⟩) 1 vc]).run P W1 = .ok (goInt 1) W2) →
  (∀ ty dc sc,(Builtin.copy_ #[tS,tS] ty #[.slice (some ⟨g2,(i+1) * sz,none⟩) (n - i) dc,.slice (some ⟨g,i * sz,none⟩) (n - i) sc]).run P W2.drew = .ok (goInt (n - i)) W3) →
  Calls P f #[.slice (some ⟨g,0,none⟩) n c,.int .i64 i,.slice (some ⟨vb,0,none⟩) 1 vc] w fun e w'=>e = .returned (.slice (some ⟨g2,0,none⟩) (n+1) c2)∧w'=W3
def zjK (w:World) (e sz:Nat) (v:Value) (n:Nat) (ys:List Value) (en:Ending) (w':World):Prop:=
 ∃ v',en = .returned v'∧w'.ownsRow 0 e sz v' (n+1) ys∧w.grownBy w' v.ownBlock∧∀ b,v'.ownBlock=some b→v.ownBlock=some b∨w.heap.size≤b
theorem zff {w:World} {e sz n cap g:Nat} {xs:List Value} (h:w.ownsRow 0 e sz (.slice (some ⟨g,0,none⟩) n cap) n xs) (k:Nat):∀ j u,(xs.drop k)[j]? = some u→w.cell? ((⟨g,k,none⟩:Addr).add j)=some u:=by
 intro j u hu
 rw [List.getElem?_drop] at hu
 have:=h.cells (g:=g) rfl (k+j) u hu
 rw [Addr.add_lit] at this ⊢
 rwa [Nat.zero_add] at this
theorem zn2 {P:Program} {f tS tI fo sz bytes e:Nat} (W:InsW P f tS tI fo sz) (ht:P.underlying tS=some (.slice e)) {inf:TypeInfo} {z:Value} (hi:P.info? e=some inf) (hz:inf.zero=some z)
 (hsize:inf.size=sz) (hby:inf.bytes=bytes) (hzs:z.cells.size=sz) (hsz:0<sz) {w:World} {v:Value} {n:Nat} {xs news:List Value} {vb vc:Nat}
 (hown:w.ownsRow 0 e sz v n xs) (hu:w.ownsRow 0 e sz (.slice (some ⟨vb,0,none⟩) 1 vc) 1 news) (h1:∀ x∈news,x.oneCell'=true) (hb:(n+1) * bytes≤140737488355328) (h63:n+1≤maxLen) :
 Calls P f #[v,.int .i64 n,.slice (some ⟨vb,0,none⟩) 1 vc] w (zjK w e sz v n (xs++news)):=by
 have hc:=zff hu 0
 rw [List.drop_zero] at hc
 obtain ⟨v',w',r1,r2,r3,_,r5⟩:=run_append_own_at (P:=P) w 0 tS 0 e inf z sz bytes ht hi hz hsize hby hzs hsz v n xs hown ⟨vb,0,none⟩ 1 vc news (by rw [hu.1]) hc h1 h63 hb (Nat.zero_le _)
 have post:zjK w e sz v n (xs++news) (.returned v') w':=by
  refine ⟨v',rfl,r2,r3,fun b hb=>?_⟩
  rcases r5 with q|q
  · exact .inl (q▸hb)
  · rw [q] at hb;cases hb;exact .inr (Nat.le_refl _)
 rcases hown.2 with ⟨rfl,rfl⟩|⟨g,cap,cur,rfl,_,hg,hnc,hcm,hcs,htake⟩
 · exact (W.nil_ vb vc w v' w' (fun ty=>r1)).mono (fun en w2 h=>by obtain ⟨rfl,rfl⟩:=h;exact post)
 · exact (W.end_ g n cap vb vc w v' w' hnc (by unfold maxLen at hcm;omega) (fun ty=>r1)).mono (fun en w2 h=>by obtain ⟨rfl,rfl⟩:=h;exact post)
theorem zp4 {A news:List Value} {a b N:Nat} (ha:a≤N) (hN:N+b≤A.length) (hn:news.length=b) :
 let X:=(A.take N).drop a
 let c1:=A.take (a+b)++X++A.drop (a+b+X.length)
 let c2:=c1.take a++news++c1.drop (a+news.length)
 c1.length=A.length∧c2.length=A.length∧c2.take (N+b)=(A.take N).take a++news++(A.take N).drop a:=by
 intro X c1 c2
 have hX:X.length=N - a:=by simp only [X,List.length_drop,List.length_take];omega
 have h1:c1.length=A.length:=by simp only [c1,List.length_append,List.length_take,List.length_drop,hX];omega
 have hta:(A.take (a+b)).length=a+b:=by rw [List.length_take];omega
 have e1:c1.take a=A.take a:=by
  simp only [c1]
  rw [List.append_assoc,List.take_append_of_le_length (by omega),List.take_take]
  congr 1;omega
 have e2:c1.drop (a+news.length)=X++A.drop (a+b+X.length):=by
  simp only [c1]
  rw [hn,List.append_assoc,List.drop_append_of_le_length (by omega),List.drop_of_length_le (by omega),List.nil_append]
 have ec2:c2=A.take a++news++(X++A.drop (a+b+X.length)):=by simp only [c2];rw [e1,e2]
 have hla:(A.take a).length=a:=by rw [List.length_take];omega
 refine ⟨h1,?_,?_⟩
 · rw [ec2];simp only [List.length_append,List.length_drop,hX,hn,hla];omega
 · rw [ec2,← List.append_assoc,List.take_append_of_le_length (by simp only [List.length_append,hX,hn,hla];omega),List.take_of_length_le (by simp only [List.length_append,hX,hn,hla];omega),List.take_take]
   congr 3;omega
theorem setRow_size (w:World) (g:Nat) (c:Array Value):(w.setRow g c).heap.size=w.heap.size∧(w.setRow g c).os=w.os∧(w.setRow g c).tape=w.tape∧(w.setRow g c).output=w.output:=by
 exact ⟨by simp [World.setRow],rfl,rfl,rfl⟩
theorem zlR {P:Program} {f tS tI fo sz e:Nat} (W:InsW P f tS tI fo sz) (ht:P.underlying tS=some (.slice e)) (hs:(P.info? e).map (·.size)=some sz)
 {w:World} {g n cap i:Nat} {xs news:List Value} {vb vc:Nat} (hi:i<n) (hroom:n+1≤cap) (hvb:vb≠g)
 (hov:∀ lb cb o,(callFunc fo #[.slice (some ⟨vb,0,none⟩) 1 vc,.slice (some ⟨g,o,none⟩) lb cb]).run P w = .ok (.value (.bool false)) w)
 (hown:w.ownsRow 0 e sz (.slice (some ⟨g,0,none⟩) n cap) n xs) (hu:w.ownsRow 0 e sz (.slice (some ⟨vb,0,none⟩) 1 vc) 1 news) (h0:∀ x∈xs,x.oneCell'=true) (h1:∀ x∈news,x.oneCell'=true) :
 Calls P f #[.slice (some ⟨g,0,none⟩) n cap,.int .i64 i,.slice (some ⟨vb,0,none⟩) 1 vc] w (zjK w e sz (.slice (some ⟨g,0,none⟩) n cap) n (xs.take (i * sz)++news++xs.drop (i * sz))):=by
 rcases hown.2 with ⟨hv,_⟩|⟨g',cap',cur,hv,_,hg,hnc,hcm,hcs,htake⟩
 · cases hv
 cases hv
 have hnl:news.length=sz:=by have:=hu.1;omega
 have hA:cur.toList.length=cap * sz:=by rw [Array.length_toList];exact hcs
 have m1:(i+1) * sz=i * sz+sz:=by rw [Nat.add_mul,Nat.one_mul]
 have m2:(n+1) * sz=n * sz+sz:=by rw [Nat.add_mul,Nat.one_mul]
 have m3:i * sz≤n * sz:=Nat.mul_le_mul_right _ (by omega)
 have m4:(n+1) * sz≤cap * sz:=Nat.mul_le_mul_right _ hroom
 have m5:(n - i) * sz=n * sz - i * sz:=Nat.sub_mul _ _ _
 obtain ⟨q1,q2,q3⟩:=zp4 (A:=cur.toList) (news:=news) (a:=i * sz) (b:=sz) (N:=n * sz) m3 (by omega) hnl
 rw [htake] at q1 q2 q3
 have hXl:(xs.drop (i * sz)).length=(n - i) * sz:=by rw [List.length_drop,hown.1,m5]
 have r1:∀ ty dc sc,(Builtin.copy_ #[tS,tS] ty #[.slice (some ⟨g,(i+1) * sz,none⟩) (n - i) dc,.slice (some ⟨g,i * sz,none⟩) (n+1 - i) sc]).run P w.drew = .ok (goInt ((n:Int) - i)) (w.drew.setRow g (cur.toList.take (i * sz+sz)++xs.drop (i * sz)++cur.toList.drop (i * sz+sz+(xs.drop (i * sz)).length)).toArray):=fun ty dc sc=>by
  have:=zd4 (P:=P) w.drew tS tS ty e sz g ((i+1) * sz) (n - i) dc ⟨g,i * sz,none⟩ (n+1 - i) sc cur e (xs.drop (i * sz)) ht hs hg
   (by rw [hXl];congr 1;simp only [Nat.min_def];split <;> omega) (zff hown (i * sz)) (by rw [hXl,← Array.length_toList,hA];omega) (fun v hv=>h0 v (List.mem_of_mem_drop hv))
  have em:Nat.min (n+1 - i) (n - i)=n - i:=by simp only [Nat.min_def];split <;> omega
  rw [em,m1] at this
  have ei:((n - i:Nat):Int)=(n:Int) - i:=by omega
  rw [ei] at this
  rw [m1];exact this
 have hg1:=setRow_heap w.drew g cur (cur.toList.take (i * sz+sz)++xs.drop (i * sz)++cur.toList.drop (i * sz+sz+(xs.drop (i * sz)).length)).toArray e (0,0) hg
 have hc:=zff hu 0
 rw [List.drop_zero] at hc
 generalize hW1:w.drew.setRow g (cur.toList.take (i * sz+sz)++xs.drop (i * sz)++cur.toList.drop (i * sz+sz+(xs.drop (i * sz)).length)).toArray=W1 at r1 hg1
 have hoth:∀ k,k≠g→W1.heap[k]? = w.heap[k]? := fun k hk=>by rw [← hW1];exact setRow_other w.drew g k _ hk
 have r2:∀ ty dc,(Builtin.copy_ #[tS,tS] ty #[.slice (some ⟨g,i * sz,none⟩) (n+1 - i) dc,.slice (some ⟨vb,0,none⟩) 1 vc]).run P W1 = .ok (goInt 1) _:=fun ty dc=>by
  have:=zd4 (P:=P) W1 tS tS ty e sz g (i * sz) (n+1 - i) dc ⟨vb,0,none⟩ 1 vc _ e news ht hs hg1
   (by have hq:Nat.min 1 (n+1 - i)=1:=(by simp only [Nat.min_def];split <;> omega);rw [hnl,hq,Nat.one_mul]) (fun j u hj=>by
    have:=hc j u hj
    rw [Addr.add_lit] at this ⊢
    rw [World.cell?_of_block (w:=w) (w':=W1) (hoth vb hvb)];exact this) (by rw [List.size_toArray,q1,hA,hnl];omega) h1
  have em:Nat.min 1 (n+1 - i)=1:=by simp only [Nat.min_def];split <;> omega
  rw [em] at this
  exact this
 refine (W.shift g n cap i vb vc w W1 _ hi hroom (by unfold maxLen at hcm;omega) hov r1 r2).mono (fun en w2 h=>?_)
 obtain ⟨rfl,rfl⟩:=h
 have z1:=setRow_size w.drew g (cur.toList.take (i * sz+sz)++xs.drop (i * sz)++cur.toList.drop (i * sz+sz+(xs.drop (i * sz)).length)).toArray
 rw [hW1] at z1
 refine ⟨_,rfl,⟨?_,.inr ⟨g,cap,_,rfl,Nat.zero_le _,setRow_heap W1 g _ _ e (0,0) hg1,hroom,hcm,?_,?_⟩⟩,?_,fun b hb=>.inl hb⟩
 · simp only [List.length_append,List.length_take,List.length_drop,hown.1,hnl];omega
 · rw [List.size_toArray];simp only [List.toList_toArray] at q2 ⊢;rw [q2,hA]
 · rw [m2];simp only [List.toList_toArray] at q3 ⊢;exact q3
 · have z2:=setRow_size W1 g (((cur.toList.take (i * sz+sz)++xs.drop (i * sz)++cur.toList.drop (i * sz+sz+(xs.drop (i * sz)).length)).toArray.toList.take (i * sz))++news++((cur.toList.take (i * sz+sz)++xs.drop (i * sz)++cur.toList.drop (i * sz+sz+(xs.drop (i * sz)).length)).toArray.toList.drop (i * sz+news.length))).toArray
   exact ⟨z2.2.1.trans z1.2.1,z2.2.2.1.trans z1.2.2.1,z2.2.2.2.trans z1.2.2.2,Nat.le_of_eq (z2.1.trans z1.1).symm,fun k _ hk=>(setRow_other W1 g k _ (fun ee=>hk (by rw [ee];rfl))).trans (hoth k (fun ee=>hk (by rw [ee];rfl)))⟩
theorem zoT {A news X:List Value} {a b N:Nat} (ha:a≤N) (hN:N+b≤A.length) (hn:news.length=b) (hX:X.length=N - a) :
 let c1:=A.take a++news++A.drop (a+news.length)
 let c2:=c1.take (a+b)++X++c1.drop (a+b+X.length)
 c1.length=A.length∧c2.length=A.length∧c2.take (N+b)=A.take a++news++X:=by
 intro c1 c2
 have hla:(A.take a).length=a:=by rw [List.length_take];omega
 have h1:c1.length=A.length:=by simp only [c1,List.length_append,List.length_drop,hla,hn];omega
 have e1:c1.take (a+b)=A.take a++news:=by
  simp only [c1]
  rw [List.take_append_of_le_length (by rw [List.length_append,hla,hn];exact Nat.le_refl _),List.take_of_length_le (by rw [List.length_append,hla,hn];exact Nat.le_refl _)]
 have ec2:c2=A.take a++news++X++c1.drop (a+b+X.length):=by simp only [c2];rw [e1]
 refine ⟨h1,?_,?_⟩
 · rw [ec2];simp only [List.length_append,List.length_drop,hX,hn,hla,h1];omega
 · rw [ec2,List.take_append_of_le_length (by simp only [List.length_append,hX,hn,hla];omega),List.take_of_length_le (by simp only [List.length_append,hX,hn,hla];omega)]
theorem zmD {P:Program} {f tS tI fo sz e bytes:Nat} (W:InsW P f tS tI fo sz) (ht:P.underlying tS=some (.slice e)) (htI:P.underlying tI=some (.int .i64)) {inf:TypeInfo} {z:Value} (hi:P.info? e=some inf) (hz:inf.zero=some z)
 (hsize:inf.size=sz) (hby:inf.bytes=bytes) (hzs:z.cells.size=sz) (hsz:0<sz)
 {w:World} {g n cap i:Nat} {xs news:List Value} {vb vc:Nat} (hin:i<n) (hroom:cap<n+1) (hb:(n+1) * bytes≤140737488355328) (h63:n+1≤maxLen)
 (hown:w.ownsRow 0 e sz (.slice (some ⟨g,0,none⟩) n cap) n xs) (hu:w.ownsRow 0 e sz (.slice (some ⟨vb,0,none⟩) 1 vc) 1 news) (h0:∀ x∈xs,x.oneCell'=true) (h1:∀ x∈news,x.oneCell'=true) :
 Calls P f #[.slice (some ⟨g,0,none⟩) n cap,.int .i64 i,.slice (some ⟨vb,0,none⟩) 1 vc] w (zjK w e sz (.slice (some ⟨g,0,none⟩) n cap) n (xs.take (i * sz)++news++xs.drop (i * sz))):=by
 subst hsize hby
 have hs:(P.info? e).map (·.size)=some inf.size:=by rw [hi];rfl
 have hgs:=(hown.lt g rfl).2
 have hvs:=(hu.lt vb rfl).2
 have hown':=hown
 rcases hown.2 with ⟨hv,_⟩|⟨g',cap',cur,hv,_,hg,hnc,hcm,hcs,htake⟩
 · cases hv
 cases hv
 have hnl:news.length=inf.size:=by have:=hu.1;omega
 have m1:(i+1) * inf.size=i * inf.size+inf.size:=by rw [Nat.add_mul,Nat.one_mul]
 have m2:(n+1) * inf.size=n * inf.size+inf.size:=by rw [Nat.add_mul,Nat.one_mul]
 have m3:i * inf.size≤n * inf.size:=Nat.mul_le_mul_right _ (by omega)
 have m5:(n - i) * inf.size=n * inf.size - i * inf.size:=Nat.sub_mul _ _ _
 have hXl:(xs.drop (i * inf.size)).length=(n - i) * inf.size:=by rw [List.length_drop,hown.1,m5]
 have hol:(xs.take (i * inf.size)).length=i * inf.size:=by rw [List.length_take,hown.1];omega
 have hold:(Builtin.firstCells inf.size i (.slice (some ⟨g,0,none⟩) i cap)).run P w.drew = .ok (xs.take (i * inf.size)).toArray w.drew:=
  run_firstCells_some (P:=P) w.drew inf.size i ⟨g,0,none⟩ i cap (xs.take (i * inf.size)) hol (fun j v hj=>by
   rw [List.getElem?_take] at hj
   split at hj
   · exact zff hown 0 j v (by rw [List.drop_zero];exact hj)
   · cases hj)
 have hkk:(n:Int)+1 - (i:Int)=((n+1 - i:Nat):Int):=by omega
 have hik:i+(n+1 - i)=n+1:=by omega
 have hfit:Builtin.nextslicecap (n+1) cap * inf.bytes≤281474976710656:=growslice_fits hroom hb
 have r0:∀ ty,(Builtin.append_ #[tS,tI] ty #[.slice (some ⟨g,0,none⟩) i cap,.int .i64 ((n:Int)+1 - (i:Int))]).run P w = .ok (.slice (some ⟨w.heap.size,0,none⟩) (n+1) (grownCap w (n+1) cap e)) _:=fun ty=>by
  have h:=Lib.run_append_grow_zeros w tS tI ty e inf z .i64 .i64 ht htI hi hz (some ⟨g,0,none⟩) i cap (xs.take (i * inf.size)) hold (n+1 - i) (by omega) hsz (by omega) (by unfold maxLen at h63;omega)
   (by have hq:(n+1 - i) * inf.bytes≤(n+1) * inf.bytes:=(Nat.mul_le_mul_right _ (by omega));omega) (by rw [hik];exact hfit)
  rw [hik] at h
  rw [hkk]
  exact h
 generalize hG:grownCap w (n+1) cap e=G at r0
 have hGn:n+1≤G:=by rw [← hG];exact grownCap_ge w _ _ _
 have hGm:G≤maxLen:=by rw [← hG];exact grownCap_le_maxLen w (n+1) cap e h63
 generalize hR:(xs.take (i * inf.size)).toArray++Builtin.zeroCells z.cells (n+1 - i)++Builtin.zeroCells z.cells (G - (n+1))=R at r0
 have hRs:R.size=G * inf.size:=by
  rw [← hR]
  simp only [Array.size_append,List.size_toArray,size_zeroCells,hzs,hol,← Nat.add_mul]
  congr 1;omega
 have hRt:R.toList.take (i * inf.size)=xs.take (i * inf.size):=by
  rw [← hR,Array.toList_append,Array.toList_append,List.append_assoc,List.toList_toArray,List.take_append_of_le_length (by omega),List.take_of_length_le (by omega)]
 have m4:(n+1) * inf.size≤G * inf.size:=Nat.mul_le_mul_right _ hGn
 have hRl:R.toList.length=G * inf.size:=by rw [Array.length_toList];exact hRs
 obtain ⟨q1,q2,q3⟩:=zoT (A:=R.toList) (news:=news) (X:=xs.drop (i * inf.size)) (a:=i * inf.size) (b:=inf.size) (N:=n * inf.size) m3 (by omega) hnl (by rw [hXl,m5])
 rw [hRt] at q1 q2 q3
 have hg1:(w.drew.alloc (.cells R e)).heap[w.heap.size]? = some (.cells R e (0,0)):=heap_alloc_new w.drew _
 have ho1:∀ k,k<w.heap.size→(w.drew.alloc (.cells R e)).heap[k]? = w.heap[k]? := fun k hk=>heap_alloc_old w.drew _ hk
 generalize hW1:w.drew.alloc (.cells R e)=W1 at r0 hg1 ho1
 have hc:=zff hu 0
 rw [List.drop_zero] at hc
 have r1:∀ ty dc,(Builtin.copy_ #[tS,tS] ty #[.slice (some ⟨w.heap.size,i * inf.size,none⟩) (n+1 - i) dc,.slice (some ⟨vb,0,none⟩) 1 vc]).run P W1 = .ok (goInt 1) (W1.setRow w.heap.size (xs.take (i * inf.size)++news++R.toList.drop (i * inf.size+news.length)).toArray):=fun ty dc=>by
  have em:Nat.min 1 (n+1 - i)=1:=by simp only [Nat.min_def];split <;> omega
  have:=zd4 (P:=P) W1 tS tS ty e inf.size w.heap.size (i * inf.size) (n+1 - i) dc ⟨vb,0,none⟩ 1 vc R e news ht hs hg1
   (by rw [hnl,em,Nat.one_mul]) (fun j u hj=>by
    have:=hc j u hj
    rw [Addr.add_lit] at this ⊢
    rw [World.cell?_of_block (w:=w) (w':=W1) (ho1 vb hvs)];exact this) (by rw [hRs,hnl];omega) h1
  rw [em,hRt] at this
  exact this
 have hg2:=setRow_heap W1 w.heap.size R (xs.take (i * inf.size)++news++R.toList.drop (i * inf.size+news.length)).toArray e (0,0) hg1
 have ho2:∀ k,k<w.heap.size→(W1.setRow w.heap.size (xs.take (i * inf.size)++news++R.toList.drop (i * inf.size+news.length)).toArray).heap[k]? = w.heap[k]? := fun k hk=>(setRow_other W1 w.heap.size k _ (by omega)).trans (ho1 k hk)
 have z2:=setRow_size W1 w.heap.size (xs.take (i * inf.size)++news++R.toList.drop (i * inf.size+news.length)).toArray
 generalize hW2:W1.setRow w.heap.size (xs.take (i * inf.size)++news++R.toList.drop (i * inf.size+news.length)).toArray=W2 at r1 hg2 ho2 z2
 have r2:∀ ty dc sc,(Builtin.copy_ #[tS,tS] ty #[.slice (some ⟨w.heap.size,(i+1) * inf.size,none⟩) (n - i) dc,.slice (some ⟨g,i * inf.size,none⟩) (n - i) sc]).run P W2.drew = .ok (goInt ((n:Int) - i)) _:=fun ty dc sc=>by
  have em:Nat.min (n - i) (n - i)=n - i:=by simp only [Nat.min_def];split <;> omega
  have:=zd4 (P:=P) W2.drew tS tS ty e inf.size w.heap.size ((i+1) * inf.size) (n - i) dc ⟨g,i * inf.size,none⟩ (n - i) sc _ e (xs.drop (i * inf.size)) ht hs hg2
   (by rw [hXl,em]) (fun j u hj=>by
    have:=zff hown (i * inf.size) j u hj
    rw [Addr.add_lit] at this ⊢
    rw [World.cell?_of_block (w:=w) (w':=W2.drew) (ho2 g hgs)];exact this) (by rw [List.size_toArray,q1,hRl,hXl];omega) (fun v hv=>h0 v (List.mem_of_mem_drop hv))
  have ei:((n - i:Nat):Int)=(n:Int) - i:=by omega
  rw [em,ei] at this
  exact this
 refine (W.grow g n cap i vb vc w.heap.size G w W1 W2 _ hin hnc hroom (by unfold maxLen at h63;omega) hGn (by unfold maxLen at hGm;omega) r0 r1 r2).mono (fun en w2 h=>?_)
 obtain ⟨rfl,rfl⟩:=h
 rw [m1]
 refine ⟨_,rfl,⟨?_,.inr ⟨w.heap.size,G,_,rfl,Nat.zero_le _,setRow_heap W2.drew _ _ _ e (0,0) hg2,hGn,hGm,?_,?_⟩⟩,?_,fun b hb=>by cases hb;exact .inr (Nat.le_refl _)⟩
 · simp only [List.length_append,List.length_take,List.length_drop,hown.1,hnl];omega
 · rw [List.size_toArray];simp only [List.toList_toArray] at q2 ⊢;rw [q2,hRl]
 · rw [m2];simp only [List.toList_toArray] at q3 ⊢;exact q3
 · have z3:=setRow_size W2.drew w.heap.size ((xs.take (i * inf.size)++news++R.toList.drop (i * inf.size+news.length)).toArray.toList.take (i * inf.size+inf.size)++xs.drop (i * inf.size)++(xs.take (i * inf.size)++news++R.toList.drop (i * inf.size+news.length)).toArray.toList.drop (i * inf.size+inf.size+(xs.drop (i * inf.size)).length)).toArray
   have y1:W1.os=w.os∧W1.tape=w.tape∧W1.output=w.output∧w.heap.size≤W1.heap.size:=by rw [← hW1];exact ⟨rfl,rfl,rfl,by simp⟩
   exact ⟨z3.2.1.trans (z2.2.1.trans y1.1),z3.2.2.1.trans (z2.2.2.1.trans y1.2.1),z3.2.2.2.trans (z2.2.2.2.trans y1.2.2.1),Nat.le_trans y1.2.2.2 (Nat.le_of_eq (z3.1.trans z2.1).symm),fun k hk _=>(setRow_other W2.drew w.heap.size k _ (by omega)).trans (ho2 k hk)⟩
theorem zlB {P:Program} {tS tB e:TypeId} {sz:Nat} (ht:P.underlying tS=some (.slice e)) {inf:TypeInfo} (hi:P.info? e=some inf) (hsize:inf.size=sz)
 {w:World} {g n cap vb vc:Nat} {xs news:List Value} (hvb:vb≠g) (hpos:0<cap * sz)
 (hown:w.ownsRow 0 e sz (.slice (some ⟨g,0,none⟩) n cap) n xs) (hu:w.ownsRow 0 e sz (.slice (some ⟨vb,0,none⟩) 1 vc) 1 news) (o lb cb:Nat) :
 (Extern.SlicesOverlaps.overlaps #[tS,tS] #[tB] #[.slice (some ⟨vb,0,none⟩) 1 vc,.slice (some ⟨g,o,none⟩) lb cb]).run P w = .ok (.bool false) w:=by
 rcases hown.2 with ⟨hv,_⟩|⟨g',cap',cur,hv,_,hg,hnc,hcm,hcs,htake⟩
 · cases hv
 cases hv
 rcases hu.2 with ⟨hv,_⟩|⟨g',cap',cur',hv,_,hg',_,_,_,_⟩
 · cases hv
 cases hv
 exact Lib.run_overlaps_apart w tS tB e ht sz (fun w=>by simp [sizeOf,typeInfo,hi,hsize]) ⟨vb,0,none⟩ ⟨g,o,none⟩ 1 vc lb cb hvb e e cur'.size cur.size
  (by simp [World.shape?,hg']) (by simp [World.shape?,hg]) (by omega) (by simp [World.frozen?,hg']) (by simp [World.frozen?,hg'])
theorem zn1 {P:Program} {f tS tI tB fo sz e bytes:Nat} (W:InsW P f tS tI fo sz)
 (hfo:∀ (w:World) (a b:Value),(Extern.SlicesOverlaps.overlaps #[tS,tS] #[tB] #[a,b]).run P w = .ok (.bool false) w→(callFunc fo #[a,b]).run P w = .ok (.value (.bool false)) w)
 (ht:P.underlying tS=some (.slice e)) (htI:P.underlying tI=some (.int .i64)) {inf:TypeInfo} {z:Value} (hi:P.info? e=some inf) (hz:inf.zero=some z)
 (hsize:inf.size=sz) (hby:inf.bytes=bytes) (hzs:z.cells.size=sz) (hsz:0<sz)
 {w:World} {v u:Value} {n i:Nat} {xs news:List Value} (hin:i≤n) (hb:(n+1) * bytes≤140737488355328) (h63:n+1≤maxLen)
 (hown:w.ownsRow 0 e sz v n xs) (hu:w.ownsRow 0 e sz u 1 news) (hne:∀ b,v.ownBlock=some b→u.ownBlock≠some b) (h0:∀ x∈xs,x.oneCell'=true) (h1:∀ x∈news,x.oneCell'=true) :
 Calls P f #[v,.int .i64 i,u] w (zjK w e sz v n (xs.take (i * sz)++news++xs.drop (i * sz))):=by
 rcases hu.2 with ⟨_,h⟩|⟨vb,vc,cur',rfl,_,hg',_,_,_,_⟩
 · cases h
 by_cases hin':i=n
 · subst hin'
   have e1:xs.take (i * sz)++news++xs.drop (i * sz)=xs++news:=by
    rw [List.take_of_length_le (by rw [hown.1];exact Nat.le_refl _),List.drop_of_length_le (by rw [hown.1];exact Nat.le_refl _),List.append_nil]
   rw [e1]
   exact zn2 W ht hi hz hsize hby hzs hsz hown hu h1 hb h63
 · have hown':=hown
   rcases hown.2 with ⟨_,h⟩|⟨g,cap,cur,rfl,_,hg,hnc,hcm,hcs,htake⟩
   · omega
   have hvb:vb≠g:=fun ee=>hne g rfl (by rw [ee];rfl)
   by_cases hroom:n+1≤cap
   · exact zlR W ht (by rw [hi];exact congrArg some hsize) (by omega) hroom hvb (fun lb cb o=>hfo w _ _ (zlB ht hi hsize hvb (Nat.mul_pos (by omega) hsz) hown' hu o lb cb)) hown' hu h0 h1
   · exact zmD W ht htI hi hz hsize hby hzs hsz (by omega) (by omega) hb h63 hown' hu h0 h1
theorem zp8 {xs news:List Value} {sz n i k j:Nat} (hx:xs.length=n * sz) (hn:news.length=sz) (hi:i≤n) (hk:k<n+1) (hj:j<sz) :
 (xs.take (i * sz)++news++xs.drop (i * sz))[k * sz+j]? = if k<i then xs[k * sz+j]? else if k=i then news[j]? else xs[(k - 1) * sz+j]? := by
 have m1:i * sz≤n * sz:=Nat.mul_le_mul_right _ hi
 have hla:(xs.take (i * sz)).length=i * sz:=by rw [List.length_take];omega
 by_cases h1:k<i
 · rw [if_pos h1]
   have:(k+1) * sz≤i * sz:=Nat.mul_le_mul_right _ h1
   rw [Nat.add_mul,Nat.one_mul] at this
   rw [List.append_assoc,List.getElem?_append_left (by omega),List.getElem?_take,if_pos (by omega)]
 · rw [if_neg h1]
   by_cases h2:k=i
   · rw [if_pos h2,h2,List.getElem?_append_left (by rw [List.length_append];omega),List.getElem?_append_right (by omega),hla]
     congr 1;omega
   · rw [if_neg h2]
     have:(i+1) * sz≤k * sz:=Nat.mul_le_mul_right _ (by omega)
     rw [Nat.add_mul,Nat.one_mul] at this
     have e:(k - 1) * sz=k * sz - sz:=by rw [Nat.sub_mul,Nat.one_mul]
     rw [List.getElem?_append_right (by rw [List.length_append];omega),List.length_append,hla,hn,List.getElem?_drop,e]
     congr 1;omega
theorem znu {T:Type} [Inhabited T] (l:List T) (x:T) {i k:Nat} (hi:i≤l.length):(l.take i++[x]++l.drop i).getD k default=if k<i then l.getD k default else if k=i then x else l.getD (k - 1) default:=by
 have hla:(l.take i).length=i:=by rw [List.length_take];omega
 simp only [List.getD_eq_getElem?_getD]
 by_cases h1:k<i
 · rw [if_pos h1,List.append_assoc,List.getElem?_append_left (by omega),List.getElem?_take,if_pos h1]
 · rw [if_neg h1]
   by_cases h2:k=i
   · rw [if_pos h2,h2,List.getElem?_append_left (by rw [List.length_append,hla];simp),List.getElem?_append_right (by omega),hla];simp
   · rw [if_neg h2,List.getElem?_append_right (by rw [List.length_append,hla];simp;omega),List.length_append,hla,List.getElem?_drop]
     congr 2;simp;omega
theorem zn3 {P:Program} {f tS tI tB fo sz e:Nat} (hent:Enters P f) (W:InsW P f tS tI fo sz)
 (hfo:∀ (w:World) (a b:Value),(Extern.SlicesOverlaps.overlaps #[tS,tS] #[tB] #[a,b]).run P w = .ok (.bool false) w→(callFunc fo #[a,b]).run P w = .ok (.value (.bool false)) w)
 (ht:P.underlying tS=some (.slice e)) (htI:P.underlying tI=some (.int .i64)) {E:TyD} (hE:TyOk P e E) (hsz:E.size=sz) (hpos:0<sz)
 {T:Type} [Inhabited T] (enc:T→List AV) (l:List T) (i:Int) (x:T) (h0:0≤i∧i≤(l.length:Int)) (hroom:room (l.length+1) E.bytes) :
 CtrO P f [.buf 700 l.length,.int .i64 i,.buf 701 1] [(700,bufL e sz enc l),(701,bufL e sz enc [x])] (.buf 900 (l.take i.toNat++[x]++l.drop i.toNat).length) [(701,bufL e sz enc [x]),(700,.dead),(900,bufL e sz enc (l.take i.toNat++[x]++l.drop i.toNat))]:=by
 refine ⟨hent,fun h w ρ vs hR hp O=>?_⟩
 obtain ⟨hl,hg⟩:=hR
 match vs,hl with
 | [v,y,u],_=>
 have hv:=hg 0 _ v rfl rfl
 have hy:=hg 1 _ y rfl rfl
 have hu:=hg 2 _ u rfl rfl
 obtain ⟨v0,xs,b1,b2,b3,b4,b5⟩:=O.blk 700 _ rfl
 obtain ⟨u0,news,d1,d2,d3,d4,d5⟩:=O.blk 701 _ rfl
 have ev:v=v0:=by
  generalize hn:l.length=n at hv
  cases hv with
  | buf _ _ _ n2 sz2 _ v' hb hle h1 he=>rw [b1] at hb;cases hb;exact he hn.symm
 have eu:u=u0:=by
  generalize hn:1=n at hu
  cases hu with
  | buf _ _ _ n2 sz2 _ v' hb hle h1 he=>rw [d1] at hb;cases hb;exact he hn.symm
 subst ev eu
 cases hy
 obtain ⟨k,rfl⟩:=Int.eq_ofNat_of_zero_le h0.1
 have hk:k≤l.length:=by omega
 rw [Int.toNat_natCast]
 have hlen:(l.take k++[x]++l.drop k).length=l.length+1:=by simp;omega
 rw [hlen]
 obtain ⟨inf,i1,i2,i3,i4⟩:=hE.info
 have hne:∀ b,v.ownBlock=some b→u.ownBlock≠some b:=fun b q1 q2=>by
  have:=O.inj 700 701 _ _ b b1 d1 q1 q2
  omega
 have hins:=zn1 (tB:=tB) W hfo ht htI i1 i4 (i2.trans hsz) i3 (by rw [zbD hE];simpa [hsz] using hE.len) hpos hk hroom.1 (ziQ hroom) b2 d2 hne b4 d4
 refine (callsIn_wide.2 hins).mono (fun en w' he=>?_)
 obtain ⟨v',rfl,own',gr,hblk⟩:=he
 have hkeep:∀ q,q<w.heap.size→¬ zcw ρ q→w'.heap[q]? = w.heap[q]? := fun q hq hn=>gr.block q hq (fun ee=>hn ⟨700,_,b1,ee.symm⟩)
 have hul:∀ b,u.ownBlock=some b→b<w.heap.size:=fun b hb=>(O.own 701 _ b d1 hb).2
 have hvu:∀ b,v'.ownBlock=some b→u.ownBlock≠some b:=fun b q1 q2=>by
  rcases hblk b q1 with q|q
  · exact hne b q q2
  · have:=hul b q2;omega
 refine ⟨h,fun id=>if id=900 then some (.sl (l.length+1) sz v') else if id=701 then some (.sl 1 sz u) else if id=700 then some (.sl (l.length+1) sz (.slice none 0 0)) else none,gr.os,gr.tape,gr.output,gr.size,hkeep,fun b o hb=>hb,fun b o hb=>.inl hb,?_,⟨fun id y hy=>?_,fun id hid=>?_,fun id li b q1 q2=>?_,fun id id' li li' b q1 q2 q3 q4=>?_⟩,fun id li b q1 q2=>?_,fun id li li' q1 q2=>?_⟩
 · have hcell:v'.oneCell'=true:=by
    rcases own'.2 with ⟨rfl,_⟩|⟨_,_,_,rfl,_⟩ <;> rfl
   exact .buf _ _ _ _ _ _ _ (if_pos rfl) (Nat.le_refl _) hcell (fun _=>rfl)
 · by_cases e7:id=701
   · subst e7
     simp only [mm] at hy;rw [zaf] at hy;cases hy
     exact ⟨u,news,by show (if (701:Nat)=900 then _ else _)=_;rw [if_neg (by omega),if_pos rfl];rfl,d2.kept gr (by cases hu0:u.ownBlock with
      | none=>exact .inl rfl
      | some b=>exact .inr (fun ee=>hne b ee.symm hu0)),d3,d4,d5⟩
   by_cases e0:id=700
   · subst e0
     simp only [mm] at hy;rw [zae _ _ (by omega),zaf] at hy;cases hy
     exact ⟨l.length+1,sz,rfl⟩
   have hid:id=900:=by
    by_cases e:id=900
    · exact e
    · simp only [mm] at hy;rw [zae _ _ e7,zae _ _ e0,zae _ _ e] at hy;cases hy
   subst hid
   simp only [mm] at hy;rw [zae _ _ (by omega),zae _ _ (by omega),zaf] at hy;cases hy
   have g3:∀ q,q<l.length+1→(enc ((l.take k++[x]++l.drop k).getD q default)).length=sz:=fun q hq=>by
    rw [znu l x hk]
    split
    · exact b3 q (by omega)
    · split
      · exact d3 0 Nat.zero_lt_one
      · exact b3 (q - 1) (by omega)
   refine ⟨v',_,by rw [hlen];exact if_pos rfl,by rw [hlen];exact own',fun q hq=>g3 q (by rw [hlen] at hq;exact hq),fun y hy=>?_,fun q j c y hq hc hy=>?_⟩
   · rcases List.mem_append.1 hy with hy|hy
     · rcases List.mem_append.1 hy with hy|hy
       · exact b4 y (List.mem_of_mem_take hy)
       · exact d4 y hy
     · exact b4 y (List.mem_of_mem_drop hy)
   · rw [hlen] at hq
     have hc:(enc ((l.take k++[x]++l.drop k).getD q default))[j]? = some c:=hc
     have hj:j<sz:=by rw [← g3 q hq];exact (List.getElem?_eq_some_iff.1 hc).1
     rw [zp8 b2.1 (by have:=d2.1;simpa using this) hk hq hj] at hy
     rw [znu l x hk] at hc
     by_cases h1:q<k
     · rw [if_pos h1] at hy hc;exact b5 q j c y (by omega) hc hy
     · rw [if_neg h1] at hy hc
       by_cases h2:q=k
       · rw [if_pos h2] at hy hc
         exact d5 0 j c y Nat.zero_lt_one hc (by rw [Nat.zero_mul,Nat.zero_add];exact hy)
       · rw [if_neg h2] at hy hc
         exact b5 (q - 1) j c y (by omega) hc hy
 · have n9:id≠900:=fun ee=>by subst ee;simp only [mm] at hid;rw [zae _ _ (by omega),zae _ _ (by omega),zaf] at hid;cases hid
   have n0:id≠700:=fun ee=>by subst ee;simp only [mm] at hid;rw [zae _ _ (by omega),zaf] at hid;cases hid
   have n7:id≠701:=fun ee=>by subst ee;simp only [mm] at hid;rw [zaf] at hid;cases hid
   show (if id=900 then _ else if id=701 then _ else if id=700 then _ else none)=none
   rw [if_neg n9,if_neg n7,if_neg n0]
 · have q1:(if id=900 then some (LI.sl (l.length+1) sz v') else if id=701 then some (LI.sl 1 sz u) else if id=700 then some (LI.sl (l.length+1) sz (.slice none 0 0)) else none)=some li:=q1
   split at q1
   · cases q1
     rcases hblk b q2 with hb|hb
     · have:=O.own 700 _ b b1 hb
       exact ⟨this.1,Nat.lt_of_lt_of_le this.2 gr.size⟩
     · refine ⟨?_,(own'.lt b q2).2⟩
       cases hh:h b with
       | none=>rfl
       | some o=>have:=zgc (hp b o hh);omega
   · split at q1
     · cases q1
       have:=O.own 701 _ b d1 q2
       exact ⟨this.1,Nat.lt_of_lt_of_le this.2 gr.size⟩
     · split at q1
       · cases q1;cases q2
       · cases q1
 · have q1:(if id=900 then some (LI.sl (l.length+1) sz v') else if id=701 then some (LI.sl 1 sz u) else if id=700 then some (LI.sl (l.length+1) sz (.slice none 0 0)) else none)=some li:=q1
   have q2:(if id'=900 then some (LI.sl (l.length+1) sz v') else if id'=701 then some (LI.sl 1 sz u) else if id'=700 then some (LI.sl (l.length+1) sz (.slice none 0 0)) else none)=some li':=q2
   by_cases a9:id=900
   · by_cases b9:id'=900
     · omega
     · rw [if_pos a9] at q1;rw [if_neg b9] at q2;cases q1
       split at q2
       · cases q2;exact absurd q4 (hvu b q3)
       · split at q2
         · cases q2;cases q4
         · cases q2
   · rw [if_neg a9] at q1
     split at q1
     · cases q1
       by_cases b9:id'=900
       · rw [if_pos b9] at q2;cases q2;exact absurd q3 (hvu b q4)
       · rw [if_neg b9] at q2
         split at q2
         · omega
         · split at q2
           · cases q2;cases q4
           · cases q2
     · split at q1
       · cases q1;cases q3
       · cases q1
 · have q1:(if id=900 then some (LI.sl (l.length+1) sz v') else if id=701 then some (LI.sl 1 sz u) else if id=700 then some (LI.sl (l.length+1) sz (.slice none 0 0)) else none)=some li:=q1
   split at q1
   · cases q1
     rcases hblk b q2 with hb|hb
     · exact .inl ⟨700,_,b1,hb⟩
     · exact .inr hb
   · split at q1
     · cases q1;exact .inl ⟨701,_,d1,q2⟩
     · split at q1
       · cases q1;cases q2
       · cases q1
 · have q2:(if id=900 then some (LI.sl (l.length+1) sz v') else if id=701 then some (LI.sl 1 sz u) else if id=700 then some (LI.sl (l.length+1) sz (.slice none 0 0)) else none)=some li':=q2
   split at q2
   · next e9=>
     subst e9
     have:=O.dom 900 rfl
     rw [this] at q1;cases q1
   · split at q2
     · next e7=>
       subst e7
       cases q2
       rw [d1] at q1;cases q1
       exact LI.le_refl _
     · split at q2
       · next e0=>
         subst e0
         cases q2
         rw [b1] at q1;cases q1
         exact .inr (.inl ⟨_,_,_,_,_,rfl,rfl,Nat.lt_succ_self _⟩)
       · cases q2
end Go.Av
end
