/- Texts of the framework, or of the plain law, one behind another. -/
import Derived.Test.YtakjeajlmlmkeaaGreatFr3
import Derived.Laws.CopyRow
import Derived.Lib.AppendZerosOnto
import Derived.Lib.Overlaps
import Derived.Test.YtakjeajlmlmkeaaGreatFr1
import Derived.Shelf.Sort.Plain
import Derived.Shelf.Slices.In.SortNone
import Derived.Sort.OwnSortedInts
import Derived.KernelRfl
/- The statement that ranges over a function. -/
section
set_option linter.all false
namespace Go.Av
open Go.Sp
def Cr (w0:World) (h0:Hp) (br:Nat→Prop) (avs:List AV) (vs:List Value) (gh:(Nat→Prop)→World→Prop) (st:Stab gh):Ctx:={ w0:=w0,h0:=h0,savA:=avs,savV:=vs,bor:=br,gh:=fun _=>gh,gh_step:=fun _ X X' w w'=>st X X' w w' }
def Still (Z:Nat→Prop) (V:Nat→Option Obj) (n:Nat) (Y:Nat→Prop) (w:World):Prop:=(∀ b,Z b→b<n∧¬ Y b∧w.heap[b]? = V b)∧n≤w.heap.size
theorem Still.stab (Z:Nat→Prop) (V:Nat→Option Obj) (n:Nat):Stab (Still Z V n):=by
 intro X X' w w' H _ _ _ hsz hk hX
 refine ⟨fun b hb=>?_,Nat.le_trans H.2 hsz⟩
 obtain ⟨h1,h2,h3⟩:=H.1 b hb
 have hlt:b<w.heap.size:=Nat.lt_of_lt_of_le h1 H.2
 refine ⟨h1,fun h=>?_,by rw [hk b hlt h2];exact h3⟩
 rcases hX b h with h4|h4
 · exact h2 h4
 · omega
def zipT:List Nat→List AV→List (Nat×AV)
 | t::ts,v::vs=>(t,v)::zipT ts vs
 | _,_=>[]
def zoV (N:Nat):List Nat→Bool
 | []=>true
 | t::ts=>match Nat.blt t N with
  | true=>zoV N ts
  | false=>false
theorem zjU {N:Nat}:∀ {ts:List Nat},zoV N ts=true→∀ t,t∈ts→t<N
 | [],_,t,ht=>by cases ht
 | x::ts,h,t,ht=>by
  unfold zoV at h
  split at h
  · rename_i hb
    rcases List.mem_cons.1 ht with rfl|ht
    · exact Nat.le_of_ble_eq_true hb
    · exact zjU h t ht
  · cases h
def zdr:List (Nat×AV)→List AV
 | []=>[]
 | (_,v)::r=>v::zdr r
theorem zm3 (f:Nat→Value):∀ (L:List (Nat×AV)),(L.map (fun p=>f p.1)).length=(zdr L).length∧∀ t:Nat,fr L t = .any∨∃ i:Nat,(zdr L)[i]? = some (fr L t)∧(L.map (fun p=>f p.1))[i]? = some (f t)
 | []=>⟨rfl,fun t=>.inl rfl⟩
 | (d,v)::r=>by
  obtain ⟨h1,h2⟩:=zm3 f r
  refine ⟨by simp [zdr] at h1 ⊢;exact h1,fun t=>?_⟩
  simp only [fr,put,zdr]
  split
  · rename_i hb
    have:=Nat.eq_of_beq_eq_true hb
    subst this
    exact .inr ⟨0,rfl,rfl⟩
  · rcases h2 t with h|⟨i,q1,q2⟩
    · exact .inl h
    · exact .inr ⟨i+1,by simpa using q1,by simpa using q2⟩
theorem zkL {N:Nat} {h:Hp} {ρ:Rho}:∀ (ps:List Nat) (it:List AV) (us:List Value) (tm:Array Value) (F:Fr),RelL h ρ it us→it.length=ps.length→(∀ t,t∈ps→t<N)→tm.size=N→ps.Nodup→(∀ t,Rel h ρ (F t) (tm.getD t undef)) →
 ((ps.zip us).foldl (fun (tm:Array Value) (x:Nat×Value)=>tm.setIfInBounds x.1 x.2) tm).size=N∧∀ t,Rel h ρ (match zgv (zipT ps it) t with|some v=>v|none=>F t) (((ps.zip us).foldl (fun (tm:Array Value) (x:Nat×Value)=>tm.setIfInBounds x.1 x.2) tm).getD t undef)
 | [],it,us,tm,F,hR,hl,_,hs,_,hF=>by
  have:it=[]:=by simpa using hl
  subst this
  exact ⟨by simpa using hs,fun t=>by simpa [zipT,zgv] using hF t⟩
 | p::ps,it,us,tm,F,hR,hl,hN,hs,hnd,hF=>by
  cases it with
  | nil=>simp at hl
  | cons v it=>
  obtain ⟨u,r,rfl,h1,h2⟩:=hR.zdC
  have hp:p<N:=hN p (by simp)
  have key:=zkL ps it r (tm.setIfInBounds p u) (put F p v) h2 (by simpa using hl) (fun t ht=>hN t (by simp [ht])) (by simpa using hs) (List.nodup_cons.1 hnd).2 (fun t=>by
   by_cases ht:t=p
   · subst ht
     rw [ze5]
     simpa [hs,hp] using h1
   · rw [zeS F v ht]
     have:=hF t
     simpa [Array.getElem?_setIfInBounds_ne (Ne.symm ht)] using this)
  refine ⟨by simpa using key.1,fun t=>?_⟩
  have k2:=key.2 t
  simp only [List.zip_cons_cons,List.foldl_cons,zipT,zgv]
  cases hb:Nat.beq t p with
  | true=>
   have e:=Nat.eq_of_beq_eq_true hb
   subst e
   have hno:zgv (zipT ps it) t=none:=by
    have hnp:=(List.nodup_cons.1 hnd).1
    clear key k2 hl h2 hN hs hF hR h1 hnd
    induction ps generalizing it with
    | nil=>cases it <;> rfl
    | cons q qs ih=>
     cases it with
     | nil=>rfl
     | cons x xs=>
      simp only [zipT,zgv]
      have:Nat.beq t q=false:=by
       cases hq:Nat.beq t q with
       | false=>rfl
       | true=>exact absurd (Nat.eq_of_beq_eq_true hq) (fun e=>hnp (by simp [e]))
      rw [this]
      exact ih xs (fun h=>hnp (by simp [h]))
   rw [hno] at k2
   simpa [ze5] using k2
  | false=>
   have hne:t≠p:=by rintro rfl;simp at hb
   simp only [zeS F v hne] at k2
   exact k2
theorem zpL:∀ (ps:List Nat) (it:List AV) (L:List (Nat×AV)) (t:Nat),fr (zipT ps it++L) t=match zgv (zipT ps it) t with|some v=>v|none=>fr L t
 | [],it,L,t=>by simp [zipT,zgv]
 | p::ps,[],L,t=>by simp [zipT,zgv]
 | p::ps,v::it,L,t=>by
  simp only [zipT,List.cons_append,fr,put,zgv]
  cases hb:Nat.beq t p with
  | true=>rfl
  | false=>simp only [];exact zpL ps it L t
def zg9:List Nat→Bool
 | []=>true
 | t::ts=>match zbc ts t with
  | true=>false
  | false=>zg9 ts
theorem zer {t:Nat}:∀ {ts:List Nat},t∈ts→zbc ts t=true
 | x::ts,h=>by
  unfold zbc
  rcases List.mem_cons.1 h with rfl|h
  · simp
  · split
    · rfl
    · exact zer h
theorem zgN:∀ {ts:List Nat},zg9 ts=true→ts.Nodup
 | [],_=>List.nodup_nil
 | t::ts,h=>by
  unfold zg9 at h
  split at h
  · cases h
  · rename_i hb
    refine List.nodup_cons.2 ⟨fun hm=>?_,zgN h⟩
    rw [zer hm] at hb;cases hb
def zmO:Exit→Code
 | .exit i=>.exit i
 | _=>.ret
section
variable {P:Program} {N:Nat} {Γ:Tys} {L:List (Nat×AV)} {M:List (Nat×Blk)} {g:Nat} {Q:Exit→Act→World→Prop} {w0:World} {h0:Hp} {SA:List AV} {SV:List Value} {br:Nat→Prop}
theorem InvH.reframe {br:Nat→Prop} {avs:List AV} {vs:List Value} {gh gh':(Nat→Prop)→World→Prop} {st:Stab gh} {st':Stab gh'} {h1 h:Hp} {ρ:Rho} {F F':Fr} {Mx:Mm} {a a':Act} {w w':World} (I:InvH N (Cr w0 h1 br avs vs gh st) h ρ F Mx g a w) (hs:∀ t,Rel h ρ (F' t) (a'.tmps.getD t undef)) (hN:a'.tmps.size=N) (hd:∃ Ds:List Nat,a'.defers=Ds.map (fun D=>{ target:=.collected D,args:=#[] })∧Ds.Nodup∧∀ D,D∈Ds→h D=some (.deferred (some []))∧w0.heap.size≤D)
 {Z:Nat→Prop} (hZ:∀ b,Z b→h b=none∧¬ zcs ρ b∧w0.heap.size≤b) (hos:w'.os=w.os) (htape:w'.tape=w.tape) (hout:w'.output=w.output) (hsz:w.heap.size≤w'.heap.size) (hk:∀ k,k<w.heap.size→¬ Z k→w'.heap[k]? = w.heap[k]?)
 (hg:∃ X:Nat→Prop,(∀ b,zcs ρ b→X b)∧(∀ b o,h b=some o→h1 b=some o∨X b)∧gh' X w'):InvH N (Cr w0 h1 br avs vs gh' st') h ρ F' Mx g a' w':=by
 refine ⟨hs,I.sav,hN,fun b o hb=>?_,fun id x hx=>?_,I.dom,fun id li b q1 q2=>?_,I.inj,hos.trans I.os,htape.trans I.tape,hout.trans I.out,Nat.le_trans I.sz hsz,fun k hk0 hb=>?_,I.ext,I.old,hg,hd⟩
 · rw [hk b (I.hlt hb) (fun hz=>by rw [(hZ b hz).1] at hb;cases hb)];exact I.hp b o hb
 · exact (I.blk id x hx).keep (Le.refl h) rfl (zcM _) (fun li b q1 q2=>hk b (I.own id li b q1 q2).2.1 (fun hz=>(hZ b hz).2.1 ⟨id,li,q1,q2⟩))
 · obtain ⟨q3,q4,q5⟩:=I.own id li b q1 q2
   exact ⟨q3,Nat.lt_of_lt_of_le q4 hsz,q5⟩
 · rw [hk k (Nat.lt_of_lt_of_le hk0 I.sz) (fun hz=>by have:=(hZ k hz).2.2;exact absurd hk0 (Nat.not_lt.2 this))]
   exact I.kept k hk0 hb
theorem W.rangeFunc {fop:Operand} {ps:Array Tmp} {assign body:Code} {gf:FuncId} {caps:List AV} {items:List (List AV)}
 (hf:evO (fr L) fop = .clo (.func gf) [] caps) (hI:Iter P gf caps items) (hit:∀ it,it∈items→it.length=ps.size) (hpN:zoV N ps.toList=true) (hpd:zg9 ps.toList=true) (hLd:zg9 (L.map (·.1))=true)
 {S:Type} (J:Nat→S→Prop) (Ms:S→List (Nat×Blk)) (s0:S) (hJ0:J 0 s0) (hM:AgreeM M (Ms s0)) (La:Nat→List (Nat×AV)) (Ma:Nat→S→List (Nat×Blk))
 {SX:Type} (JX:Exit→SX→Prop) (MX:Exit→SX→List (Nat×Blk)) (hX:∀ e s,JX e s→e = .ret∨∃ i,e = .exit i) (hval:∀ b o,h0 b=some o→w0.heap[b]? = some o)
 (asg:∀ (h1:Hp) (vs:List Value) (gh:(Nat→Prop)→World→Prop) (st:Stab gh) (l:Nat) (k:Nat) (it:List AV) (s:S),items[k]? = some it→∀ K:Act→World→Prop,At N (Cr w0 h1 br (zdr L++SA) vs gh st) (La k) (Ma k s) g K →
  W P N (some l) (Cr w0 h1 br (zdr L++SA) vs gh st) assign (zipT ps.toList it++L) (Ms s) g (Exit.then K (fun _ _ _=>False)))
 (round:∀ (h1:Hp) (vs:List Value) (gh:(Nat→Prop)→World→Prop) (st:Stab gh) (l:Nat) (k:Nat) (it:List AV) (s:S),items[k]? = some it→J k s→∀ Qr:Exit→Act→World→Prop,
  (∀ s',J (k+1) s'→At N (Cr w0 h1 br (zdr L++SA) vs gh st) [] (Ms s') g (Qr .normal))→(∀ e s',JX e s'→At N (Cr w0 h1 br (zdr L++SA) vs gh st) [] (MX e s') g (Qr e)) →
  W P N (some l) (Cr w0 h1 br (zdr L++SA) vs gh st) body (La k) (Ma k s) g Qr)
 (done:∀ s,J items.length s→At N (Cq w0 h0 SA SV br) L (Ms s) g (Q .normal)) (left:∀ e s,JX e s→At N (Cq w0 h0 SA SV br) L (MX e s) g (Q e)):W P N none (Cq w0 h0 SA SV br) (.rangeFunc fop ps assign body) L M g Q:=by
 refine At.zaX hM ?_
 intro h ρ a w I
 refine wpIn_rangeFunc ?_
 intro fn hfn
 -- the function,and its contract
 have hfv:∃ ws:List Value,a.eval fop = .func (.func gf) #[] ws.toArray∧RelL h ρ0 caps ws:=by
  have h1:Rel h ρ (evO (fr L) fop) (a.eval fop):=by
   cases fop with
   | tmp t=>exact I.slot t
   | const v=>exact Rel.zeL h ρ v
   | func f=>exact .fn _ _ _ _ [] [] rfl rfl (fun i c v hc=>by simp at hc) (fun i c v hc=>by simp at hc)
   | global g=>exact .any _ _
  rw [hf] at h1
  generalize a.eval fop=z at h1
  cases h1 with
  | clo _ _ _ _ _ h2=>
  cases h2 with
  | fn _ _ _ _ us ws hl hm _ hd=>
   have e1:us=[]:=by simpa using hl
   subst e1
   exact ⟨ws,rfl,hm,hd⟩
 obtain ⟨ws,hev,hws⟩:=hfv
 obtain ⟨rec,hrec⟩:∃ rec:LoopState→Option Code→Loop,rec=fun st pe=>{ state:=st,pending:=pe,fn,tmps:=a.tmps,params:=ps,assign,body,defers:=w.heap.size }:=⟨_,rfl⟩
 obtain ⟨W1,hW1⟩:∃ W1,(w.alloc (.deferred (some []))).alloc (.loop (rec .ready none))=W1:=⟨_,rfl⟩
 have hL1:W1.heap[w.heap.size+1]? = some (.loop (rec .ready none)):=by
  rw [← hW1];have:=World.alloc_heap_new (w.alloc (.deferred (some []))) (.loop (rec .ready none));rwa [World.size_alloc] at this
 have hK1:W1.heap[w.heap.size]? = some (.deferred (some [])):=by
  rw [← hW1];exact (RowKit.Below.heap_alloc _ _ _ (by simp)).trans (World.alloc_heap_new w _)
 have hS1:W1.heap.size=w.heap.size+2:=by rw [← hW1];simp
 have hB1:RowKit.Below w.heap.size w W1:=by
  rw [← hW1];exact ((((RowKit.Below.refl _ w).alloc (Nat.le_refl _) _).alloc (by simp) _))
 obtain ⟨D,hD⟩:∃ D,w.heap.size=D:=⟨_,rfl⟩
 have hnod:∀ {h':Hp},∃ Ds:List Nat,([]:List Deferred)=Ds.map (fun D=>{ target:=.collected D,args:=#[] })∧Ds.Nodup∧∀ D,D∈Ds→h' D=some (.deferred (some []))∧w0.heap.size≤D:=fun {h'}=>⟨[],rfl,List.nodup_nil,fun D hD=>(by cases hD)⟩
 have hlt0:∀ b o,h b=some o→b<D:=fun b o hb=>by rw [← hD];exact I.hlt hb
 obtain ⟨vs0,hvs⟩:∃ vs,L.map (fun p=>a.tmps.getD p.1 undef)=vs:=⟨_,rfl⟩
 obtain ⟨hav1,hav2⟩:=zm3 (fun t=>a.tmps.getD t undef) L
 rw [hvs] at hav1 hav2
 obtain ⟨vs,hvs2⟩:∃ vs,vs0++SV=vs:=⟨_,rfl⟩
 have hsv:SV.length=SA.length:=I.sav.1
 have hsz0:w0.heap.size≤D:=by rw [← hD];exact I.sz
 have slotL:∀ {h':Hp} {ρ':Rho},(vs.length=(zdr L++SA).length∧∀ (i:Nat) (c:AV) (v:Value),(zdr L++SA)[i]? = some c→vs[i]? = some v→Rel h' ρ' c v)→∀ t,Rel h' ρ' (fr L t) (a.tmps.getD t undef):=fun hs t=>by
  rcases hav2 t with e|⟨i,q1,q2⟩
  · rw [e];exact .any _ _
  · refine hs.2 i _ _ ?_ ?_
    · rw [List.getElem?_append_left (List.getElem?_eq_some_iff.1 q1).1];exact q1
    · rw [← hvs2,List.getElem?_append_left (List.getElem?_eq_some_iff.1 q2).1];exact q2
 have slotS:∀ {h':Hp} {ρ':Rho},(vs.length=(zdr L++SA).length∧∀ (i:Nat) (c:AV) (v:Value),(zdr L++SA)[i]? = some c→vs[i]? = some v→Rel h' ρ' c v)→∀ (i:Nat) (c:AV) (v:Value),SA[i]? = some c→SV[i]? = some v→Rel h' ρ' c v:=fun hs i c v h1 h2=>by
  refine hs.2 ((zdr L).length+i) _ _ ?_ ?_
  · rw [List.getElem?_append_right (Nat.le_add_right _ _),Nat.add_sub_cancel_left];exact h1
  · rw [← hvs2,← hav1,List.getElem?_append_right (Nat.le_add_right _ _),Nat.add_sub_cancel_left];exact h2
 let T:(Nat→Prop)→World→Prop:=fun _ _=>True
 have sT:Stab T:=fun _ _ _ _ _ _ _ _ _ _ _=>trivial
 -- the caller between two rounds,while the iterator holds X
 let MidP:List (Nat×Blk)→(Nat→Prop)→World→Prop:=fun Mx X Wd=>(∃ h' ρ' a0,a0.defers=[]∧InvH N (Cr w0 h br (zdr L++SA) vs T sT) h' ρ' (fr []) (mm Mx) g a0 Wd∧∀ b,(X b∨b=D∨b=D+1)→h' b=none∧¬ zcs ρ' b)∧Wd.heap[D]? = some (.deferred (some []))∧W1.heap.size≤Wd.heap.size∧∀ b,X b→W1.heap.size≤b
 let Jf:Nat→(Nat→Prop)→World→Prop:=fun k X Wd=>match k with
  | 0=>∃ e s,JX e s∧MidP (MX e s) X Wd∧Wd.heap[D+1]? = some (.loop (rec .done (some (zmO e))))
  | k+1=>∃ s,J k s∧MidP (Ms s) X Wd∧Wd.heap[D+1]? = some (.loop (rec .ready none))
 have midStab:∀ Mx (o:Obj),Stab (fun X Wd=>MidP Mx X Wd∧Wd.heap[D+1]? = some o):=by
  rintro Mx o X X' wd wd' ⟨⟨⟨h',ρ',a0,hd0,I0,hZ⟩,m1,m2,m3⟩,m4⟩ hos htape hout hsz hk hX'
  have hDX:¬ X D:=fun hx=>by have:=m3 D hx;omega
  have hDX':¬ X (D+1):=fun hx=>by have:=m3 _ hx;omega
  refine ⟨⟨⟨h',ρ',a0,hd0,I0.reframe (Z:=X) I0.slot I0.size (by rw [hd0];exact hnod) (fun b hb=>⟨(hZ b (.inl hb)).1,(hZ b (.inl hb)).2,by have:=m3 b hb;omega⟩) hos htape hout hsz hk ⟨fun _=>True,fun _ _=>trivial,fun _ _ _=>.inr trivial,trivial⟩,fun b hb=>?_⟩,?_,Nat.le_trans m2 hsz,fun b hb=>?_⟩,?_⟩
  · rcases hb with hb|hb
    · rcases hX' b hb with h2|h2
      · exact hZ b (.inl h2)
      · refine ⟨?_,fun ⟨id,li,q1,q2⟩=>?_⟩
        · cases ho:h' b with
          | none=>rfl
          | some o=>have:=I0.hlt ho;omega
        · have:=(I0.own id li b q1 q2).2.1;omega
    · exact hZ b (.inr hb)
  · rw [hk D (by omega) hDX];exact m1
  · rcases hX' b hb with h2|h2
    · exact m3 b h2
    · omega
  · rw [hk _ (by omega) hDX'];exact m4
 have hstab:∀ k,Stab (Jf k):=by
  intro k X X' wd wd' H hos htape hout hsz hk hX'
  cases k with
  | zero=>
   obtain ⟨e,s,q1,q2⟩:=H
   exact ⟨e,s,q1,midStab _ _ X X' wd wd' q2 hos htape hout hsz hk hX'⟩
  | succ k=>
   obtain ⟨s,q1,q2⟩:=H
   exact ⟨s,q1,midStab _ _ X X' wd wd' q2 hos htape hout hsz hk hX'⟩
 have hyld:Yld P h (D+1) Jf items:=by
  rintro k X W it us ⟨s,hJ,⟨⟨h',ρ',a0,hd0,I0,hZ⟩,m1,m2,m3⟩,hl⟩ hitk hus
  have hitl:=hit it (List.mem_of_getElem? hitk)
  have hsz2:us.toArray.size=ps.size:=by simp only [List.size_toArray];rw [hus.1,hitl]
  have hy:=run_yield (P:=P) (args:=us.toArray) hl (by rw [hrec];exact hsz2)
  rw [hrec] at hy
  refine ⟨fn,_,assign,body,hy,roundIn_of_wpIn (F:=Fw none) (n:=1) trivial ?_⟩
  have hfold:(ps.zip us.toArray).foldl (fun tmps (x:Nat×Value)=>tmps.setIfInBounds x.1 x.2) a.tmps=((ps.toList.zip us).foldl (fun (tm:Array Value) (x:Nat×Value)=>tm.setIfInBounds x.1 x.2) a.tmps):=by
   rw [← Array.foldl_toList,Array.toList_zip]
  obtain ⟨z1,z2⟩:=zkL ps.toList it us a.tmps (fr L) ((RelL.heap hus (Le.of I0.ext)).closed) (by simpa using hitl) (fun t ht=>zjU hpN t ht) I.size (zgN hpd) (slotL I0.sav)
  rw [← hfold] at z1 z2
  obtain ⟨Z,hZd⟩:∃ Z:Nat→Prop,Z=fun b=>(X b∧b<W.heap.size)∨b=D∨b=D+1:=⟨_,rfl⟩
  have hZlt:∀ b,Z b→b<W.heap.size∧D≤b:=fun b hb=>by
   rw [hZd] at hb
   rcases hb with hb|hb
   · exact ⟨hb.2,by have:=m3 b hb.1;omega⟩
   · exact ⟨by omega,by omega⟩
  have hZ':∀ b,Z b→h' b=none∧¬ zcs ρ' b:=fun b hb=>by
   rw [hZd] at hb
   exact hZ b (hb.imp (fun h=>h.1) (fun h=>h))
  have still0:∀ (h2:Hp) (ρ2:Rho),(∀ b,Z b→h2 b=none∧¬ zcs ρ2 b)→∀ (V:Nat→Option Obj) (w2:World),W.heap.size≤w2.heap.size→(∀ b,Z b→w2.heap[b]? = V b)→∃ Y:Nat→Prop,(∀ b,zcs ρ2 b→Y b)∧(∀ b o,h2 b=some o→h b=some o∨Y b)∧Still Z V W.heap.size Y w2:=
   fun h2 ρ2 hz V w2 hsz hv=>⟨fun b=>¬ Z b,fun b hb hzb=>(hz b hzb).2 hb,fun b o hb=>.inr (fun hzb=>by rw [(hz b hzb).1] at hb;cases hb),fun b hb=>⟨(hZlt b hb).1,fun hn=>hn hb,hv b hb⟩,hsz⟩
  have free:∀ {gh:(Nat→Prop)→World→Prop} {st:Stab gh} {V:Nat→Option Obj} {h2:Hp} {ρ2:Rho} {F2:Fr} {M2:Mm} {a2:Act} {w2:World},InvH N (Cr w0 h br (zdr L++SA) vs (Still Z V W.heap.size) (Still.stab _ _ _)) h2 ρ2 F2 M2 g a2 w2→(∀ b,Z b→h2 b=none∧¬ zcs ρ2 b)∧(∀ b,Z b→w2.heap[b]? = V b)∧W.heap.size≤w2.heap.size:=
   fun {gh st V h2 ρ2 F2 M2 a2 w2} I2=>by
    obtain ⟨Y,y1,y2,y3⟩:=I2.gst
    refine ⟨fun b hb=>⟨?_,fun ho=>(y3.1 b hb).2.1 (y1 b ho)⟩,fun b hb=>(y3.1 b hb).2.2,y3.2⟩
    cases ho:h2 b with
    | none=>rfl
    | some o=>
     rcases y2 b o ho with h3|h3
     · have:=hlt0 b o h3;have:=(hZlt b hb).2;omega
     · exact absurd h3 (y3.1 b hb).2.1
  have hlast:∀ b,Z b→b≠D+1→(X b∧b<W.heap.size)∨b=D:=fun b hb hne=>by
   rw [hZd] at hb
   rcases hb with hb|hb|hb
   · exact .inl hb
   · exact .inr hb
   · exact absurd hb hne
  have zD:Z D:=by rw [hZd];exact .inr (.inl rfl)
  have zD1:Z (D+1):=by rw [hZd];exact .inr (.inr rfl)
  refine asg h vs (Still Z (fun b=>W.heap[b]?) W.heap.size) (Still.stab _ _ _) (D+1) k it s hitk _ (fun h2 ρ2 a1 w1 I2=>?_) h' ρ' _ W
   (I0.reframe (Z:=fun _=>False) (a':={ tmps:=(ps.zip us.toArray).foldl (fun tmps (x:Nat×Value)=>tmps.setIfInBounds x.1 x.2) a.tmps,defers:=[] }) (fun t=>by rw [zpL];exact z2 t) z1 hnod (fun b hb=>hb.elim) rfl rfl rfl (Nat.le_refl _) (fun _ _ _=>rfl) (still0 h' ρ' hZ' _ W (Nat.le_refl _) (fun b hb=>rfl)))
  obtain ⟨f1,f2,f3⟩:=free (gh:=T) (st:=sT) I2
  have hl1:w1.heap[D+1]? = some (.loop (rec .ready none)):=(f2 _ zD1).trans hl
  have hbr:=run_beginRound (P:=P) hl1 (by rw [hrec])
  refine ⟨_,hbr,?_⟩
  have hlt1:D+1<w1.heap.size:=(Array.getElem?_eq_some_iff.1 hl1).1
  have hl2:(w1.putObj (D+1) (.loop { rec .ready none with state:=.busy })).heap[D+1]? = some (.loop { rec .ready none with state:=.busy }):=World.putObj_heap_same hlt1
  refine round h vs (Still Z (fun b=>if b=D+1 then some (.loop { rec .ready none with state:=.busy }) else W.heap[b]?) W.heap.size) (Still.stab _ _ _) (D+1) k it s hitk hJ _ (fun s' hJ' h3 ρ3 a3 w3 I3=>?_) (fun e s' hJX h3 ρ3 a3 w3 I3=>?_) h2 ρ2 a1 _
   (I2.reframe (Z:=fun b=>b=D+1) I2.slot I2.size I2.dfr (fun b hb=>by subst hb;exact ⟨(f1 _ zD1).1,(f1 _ zD1).2,by omega⟩) rfl rfl rfl (by simp) (fun kk _ hkk=>World.putObj_heap_other hkk) (still0 h2 ρ2 f1 _ _ (by simpa using f3) (fun b hb=>by
    by_cases hbe:b=D+1
    · subst hbe;rw [if_pos rfl];exact hl2
    · rw [if_neg hbe,World.putObj_heap_other hbe];exact f2 b hb)))
  all_goals
   obtain ⟨p1,p2,p3⟩:=free (gh:=T) (st:=sT) I3
   have hl3:w3.heap[D+1]? = some (.loop { rec .ready none with state:=.busy }):=by have:=p2 _ zD1;rw [if_pos rfl] at this;exact this
   have hlt3:D+1<w3.heap.size:=(Array.getElem?_eq_some_iff.1 hl3).1
   have mid:∀ (Mx:List (Nat×Blk)),InvH N (Cr w0 h br (zdr L++SA) vs (Still Z (fun b=>if b=D+1 then some (.loop { rec .ready none with state:=.busy }) else W.heap[b]?) W.heap.size) (Still.stab _ _ _)) h3 ρ3 (fr []) (mm Mx) g a3 w3→∀ o,MidP Mx (fun b=>X b∧b<W.heap.size) (w3.putObj (D+1) o):=fun Mx I3 o=>
    ⟨⟨h3,ρ3,{ a3 with defers:=[] },rfl,I3.reframe (Z:=fun b=>b=D+1) (fun t=>.any _ _) I3.size hnod (fun b hb=>by subst hb;exact ⟨(p1 _ zD1).1,(p1 _ zD1).2,by omega⟩) rfl rfl rfl (by simp) (fun kk _ hkk=>World.putObj_heap_other hkk) ⟨fun _=>True,fun _ _=>trivial,fun _ _ _=>.inr trivial,trivial⟩,
     fun b hb=>p1 b (by rw [hZd];exact hb)⟩,by
      rw [World.putObj_heap_other (by omega)]
      have:=p2 _ zD;rw [if_neg (by omega)] at this
      exact this.trans m1,by simp;omega,fun b hb=>m3 b hb.1⟩
   have kept:∀ o,zlE h X W (fun _ _=>True) (.returned (.bool true)) (w3.putObj (D+1) o):=fun o=>
    ⟨true,rfl,trivial,I3.os.trans I0.os.symm,I3.tape.trans I0.tape.symm,I3.out.trans I0.out.symm,by simpa using p3,fun kk hkk hX=>by
     have hne:kk≠D+1:=fun e=>by have:=m3 kk hX;omega
     rw [World.putObj_heap_other hne]
     have:=p2 kk (by rw [hZd];exact .inl ⟨hX,hkk⟩)
     rw [if_neg hne] at this
     exact this,fun kk o' hk'=>by
     have:=hlt0 kk o' hk'
     rw [World.putObj_heap_other (by omega)]
     exact I3.hp kk o' (I3.ext kk o' hk')⟩
  · have hr:=run_endRound (P:=P) none hl3
    refine ⟨_,_,hr,?_⟩
    obtain ⟨_,_,_,k1,k2,k3,k4,k5,k6⟩:=kept (.loop { ({ rec .ready none with state:=.busy }:Loop) with state:=.ready,pending:=none })
    refine ⟨true,rfl,⟨s',hJ',mid _ I3 _,?_⟩,k1,k2,k3,k4,k5,k6⟩
    rw [World.putObj_heap_same hlt3,hrec];rfl
  · rcases hX e s' hJX with rfl|⟨i,rfl⟩
    · have hr:=run_endRound (P:=P) (some .ret) hl3
      refine ⟨_,_,hr,?_⟩
      obtain ⟨_,_,_,k1,k2,k3,k4,k5,k6⟩:=kept (.loop { ({ rec .ready none with state:=.busy }:Loop) with state:=.done,pending:=some .ret })
      refine ⟨false,rfl,⟨.ret,s',hJX,mid _ I3 _,?_⟩,k1,k2,k3,k4,k5,k6⟩
      rw [World.putObj_heap_same hlt3,hrec];rfl
    · have hr:=run_endRound (P:=P) (some (.exit i)) hl3
      refine ⟨_,_,hr,?_⟩
      obtain ⟨_,_,_,k1,k2,k3,k4,k5,k6⟩:=kept (.loop { ({ rec .ready none with state:=.busy }:Loop) with state:=.done,pending:=some (.exit i) })
      refine ⟨false,rfl,⟨.exit i,s',hJX,mid _ I3 _,?_⟩,k1,k2,k3,k4,k5,k6⟩
      rw [World.putObj_heap_same hlt3,hrec];rfl
 -- the way back
 have back:∀ (Mx:List (Nat×Blk)) (X:Nat→Prop) (W:World) (o0 o1:Obj),MidP Mx X W→W.heap[D+1]? = some o0→∃ h' ρ',InvH N (Cq w0 h0 SA SV br) h' ρ' (fr L) (mm Mx) g { a with defers:=[{ target:=.collected D,args:=#[] }]++a.defers } (W.putObj (D+1) o1):=by
  rintro Mx X W o0 o1 ⟨⟨h',ρ',a0,hd0,I0,hZ⟩,m1,m2,m3⟩ hl
  have hlt:D+1<W.heap.size:=(Array.getElem?_eq_some_iff.1 hl).1
  obtain ⟨hz1,hz2⟩:=hZ D (.inr (.inl rfl))
  obtain ⟨hy1,hy2⟩:=hZ (D+1) (.inr (.inr rfl))
  have hle:∀ b o,h' b=some o→upd h' D (some (.deferred (some []))) b=some o:=fun b o hb=>by
   rw [zae _ _ (fun e=>by subst e;rw [hz1] at hb;cases hb)];exact hb
  refine ⟨upd h' D (some (.deferred (some []))),ρ',⟨fun t=>(slotL I0.sav t).heap (Le.of hle),⟨hsv,fun i c v h1 h2=>(slotS I0.sav i c v h1 h2).heap (Le.of hle)⟩,I.size,fun b o hb=>?_,fun id x hx=>?_,I0.dom,fun id li b q1 q2=>?_,I0.inj,I0.os,I0.tape,I0.out,by have:=I0.sz;rw [World.putObj_size];exact this,fun kk hk0 hb=>?_,fun b o hb=>hle b o (I0.ext b o (I.ext b o hb)),fun b o hb hlt'=>?_,⟨fun _=>True,fun _ _=>trivial,fun _ _ _=>.inr trivial,trivial⟩,?_⟩⟩
  · by_cases hbD:b=D
    · subst hbD
      rw [zah] at hb;cases hb
      rw [World.putObj_heap_other (by omega)];exact m1
    · rw [zae _ _ hbD] at hb
      rw [World.putObj_heap_other (fun e=>by subst e;rw [hy1] at hb;cases hb)];exact I0.hp b o hb
  · exact (I0.blk id x hx).keep (Le.of hle) rfl (zcM _) (fun li b q1 q2=>World.putObj_heap_other (fun e=>by subst e;exact hy2 ⟨id,li,q1,q2⟩))
  · obtain ⟨q3,q4,q5⟩:=I0.own id li b q1 q2
    refine ⟨?_,by simpa using q4,?_⟩
    · rw [zae _ _ (fun e=>by subst e;exact hz2 ⟨id,li,q1,q2⟩)];exact q3
    · exact q5
  · rw [World.putObj_heap_other (by have:kk<w0.heap.size:=hk0;omega)];exact I0.kept kk hk0 hb
  · have hne:b≠D:=by have:b<w0.heap.size:=hlt';omega
    rw [zae _ _ hne] at hb
    exact I.old b o (I0.old b o hb hlt') hlt'
  · obtain ⟨Ds,hd1,hd2,hd3⟩:=I.dfr
    refine ⟨D::Ds,by simp [hd1],List.nodup_cons.2 ⟨fun hm=>?_,hd2⟩,fun D' hD'=>?_⟩
    · have:=hlt0 D _ (hd3 D hm).1;omega
    · rcases List.mem_cons.1 hD' with rfl|hm
      · exact ⟨zah _ _ _,hsz0⟩
      · exact ⟨hle _ _ (I0.ext _ _ (hd3 D' hm).1),(hd3 D' hm).2⟩
 have hj1:Jf 1 (fun _=>False) W1:=by
  refine ⟨s0,hJ0,⟨⟨h,ρ,{ a with defers:=[] },rfl,?_,fun b hb=>?_⟩,hD▸hK1,Nat.le_refl _,fun b hb=>hb.elim⟩,hD▸hL1⟩
  · refine ⟨fun t=>.any _ _,⟨by show vs.length=(zdr L++SA).length;rw [← hvs2,List.length_append,List.length_append,hav1,hsv],fun i c v q1 q2=>?_⟩,I.size,fun b o hb=>?_,fun id x hx=>?_,I.dom,fun id li b q1 q2=>?_,I.inj,hB1.os.trans I.os,hB1.tape.trans I.tape,hB1.output.trans I.out,Nat.le_trans I.sz hB1.size,fun kk hk0 hb=>?_,fun b o hb=>hb,fun b o hb _=>hb,⟨fun _=>True,fun _ _=>trivial,fun _ _ _=>.inr trivial,trivial⟩,hnod⟩
    · replace q1:(zdr L++SA)[i]? = some c:=q1
      replace q2:vs[i]? = some v:=q2
      rcases Nat.lt_or_ge i (zdr L).length with hi|hi
      rotate_left
      · rw [List.getElem?_append_right hi] at q1
        rw [← hvs2,List.getElem?_append_right (by rw [hav1];exact hi),hav1] at q2
        exact I.sav.2 _ c v q1 q2
      rw [List.getElem?_append_left hi] at q1
      rw [← hvs2,List.getElem?_append_left (by rw [hav1];exact hi)] at q2
      obtain ⟨t,q3⟩:∃ t,L[i]? = some (t,c):=by
       have:∀ (L:List (Nat×AV)) (i:Nat),(zdr L)[i]? = some c→∃ t,L[i]? = some (t,c):=by
        intro L
        induction L with
        | nil=>intro i h;simp [zdr] at h
        | cons x r ih=>
         obtain ⟨d,v⟩:=x
         intro i h
         cases i with
         | zero=>simp [zdr] at h;subst h;exact ⟨d,rfl⟩
         | succ i=>simpa [zdr] using ih i (by simpa [zdr] using h)
       exact this L i q1
      have q4:fr L t=c:=by
       have:∀ (L:List (Nat×AV)),zg9 (L.map (·.1))=true→∀ i:Nat,L[i]? = some (t,c)→fr L t=c:=by
        intro L
        induction L with
        | nil=>intro _ i h;simp at h
        | cons x r ih=>
         obtain ⟨d,v⟩:=x
         intro hn i h
         have hn':=zgN hn
         simp only [List.map_cons] at hn'
         cases i with
         | zero=>
          simp at h;obtain ⟨rfl,rfl⟩:=h
          exact ze5 _ _ _
         | succ i=>
          have hi:r[i]? = some (t,c):=by simpa using h
          have hne:t≠d:=by
           rintro rfl
           exact (List.nodup_cons.1 hn').1 (List.mem_map.2 ⟨(t,c),List.mem_of_getElem? hi,rfl⟩)
          simp only [fr]
          rw [zeS _ _ hne]
          refine ih ?_ i hi
          simp only [List.map_cons] at hn
          unfold zg9 at hn
          split at hn
          · cases hn
          · exact hn
       exact this L hLd i q3
      have q5:v=a.tmps.getD t undef:=by
       replace q2:(L.map (fun p=>a.tmps.getD p.1 undef))[i]? = some v:=by rw [hvs];exact q2
       rw [List.getElem?_map,q3] at q2
       simpa using q2.symm
      rw [q5,← q4]
      exact I.slot t
    · rw [hB1.block b (I.hlt hb)];exact I.hp b o hb
    · exact (I.blk id x hx).keep (Le.refl h) rfl (zcM _) (fun li b q1 q2=>hB1.block b (I.own id li b q1 q2).2.1)
    · obtain ⟨q3,q4,q5⟩:=I.own id li b q1 q2
      exact ⟨q3,Nat.lt_of_lt_of_le q4 hB1.size,q5⟩
    · rw [hB1.block kk (Nat.lt_of_lt_of_le hk0 I.sz)];exact I.kept kk hk0 hb
  · have hge:D≤b:=by
     rcases hb with hb|hb|hb
     · exact hb.elim
     · omega
     · omega
    refine ⟨?_,fun ⟨id,li,q1,q2⟩=>?_⟩
    · cases ho:h b with
      | none=>rfl
      | some o=>have:=hlt0 b o ho;omega
    · have:=(I.own id li b q1 q2).2.1;omega
 refine ⟨w.heap.size+1,[{ target:=.collected w.heap.size,args:=#[] }],W1,{ target:=.fn (.func gf) ws.toArray,args:=#[.func (.yield (w.heap.size+1)) #[] #[]] },W1,gf,
  #[.func (.yield (w.heap.size+1)) #[] #[]]++ws.toArray,W1,?_,?_,fun f' hf'=>trivial,?_,fun _=>Nat.le_refl _,?_⟩
 · rw [← hW1,hrec];exact run_enterLoop_outer _ _ _ _ _
 · simp only [resolve,hev]
   simp [go_sem]
 · have eg:∀ args w,(callFunc gf args).run P w = .ok (.enter gf args) w:=hI.1
   simp [invoke,go_sem,eg]
 · have harr : #[Value.func (.yield (w.heap.size+1)) #[] #[]]++ws.toArray=(Value.func (.yield (D+1)) #[] #[]::ws).toArray:=by rw [hD];simp
   rw [harr,hD]
   refine zcV ((hI.2 h W1 ws hws (fun b o hb=>by rw [hB1.block b (I.hlt hb)];exact I.hp b o hb) (D+1) Jf hstab hyld hj1).mono ?_)
   rintro e W2 ⟨⟨v,rfl⟩,X,hJe⟩
   rcases hJe with ⟨s,hJ,hmid,hl⟩|⟨e',s,hJX,hmid,hl⟩
   · have h5:=run_endLoop (P:=P) hl (by rw [hrec];simp)
     have h6:(rec .ready none).pending=none:=by rw [hrec]
     rw [h6] at h5
     obtain ⟨h',ρ',I'⟩:=back _ X W2 _ _ hmid hl
     exact ⟨none,_,h5,done s hJ h' ρ' _ _ I'⟩
   · have h5:=run_endLoop (P:=P) hl (by rw [hrec];simp)
     have h6:(rec .done (some (zmO e'))).pending=some (zmO e'):=by rw [hrec]
     rw [h6] at h5
     refine ⟨some (zmO e'),_,h5,?_⟩
     rcases hX e' s hJX with rfl|⟨i,rfl⟩
     · obtain ⟨h',ρ',I'⟩:=back _ X W2 _ _ hmid hl
       exact wpIn_ret (left _ s hJX h' ρ' _ _ I')
     · obtain ⟨h',ρ',I'⟩:=back _ X W2 _ _ hmid hl
       exact wpIn_exit (left _ s hJX h' ρ' _ _ I')
theorem W.zhY {fop:Operand} {ps:Array Tmp} {assign body:Code} {gf:FuncId} {caps:List AV} {A S R:Type} {bd:A→S→(S→R)→R} {exit:S→R} {l:List A} {s0:S} {r:R} (H:Sp.zhY bd exit l s0=r) (enc:A→List AV)
 (hI:Iter P gf caps (l.map enc)) (hf:evO (fr L) fop = .clo (.func gf) [] caps) (henc:∀ x,(enc x).length=ps.size) (hpN:zoV N ps.toList=true) (hpd:zg9 ps.toList=true) (hLd:zg9 (L.map (·.1))=true)
 (Ms:S→List (Nat×Blk)) (hM:AgreeM M (Ms s0)) (La:A→List (Nat×AV)) (Ma:A→S→List (Nat×Blk))
 {SX:Type} (JX:Exit→SX→Prop) (MX:Exit→SX→List (Nat×Blk)) (hX:∀ e s,JX e s→e = .ret∨∃ i,e = .exit i) (hval:∀ b o,h0 b=some o→w0.heap[b]? = some o)
 (asg:∀ (h1:Hp) (vs:List Value) (gh:(Nat→Prop)→World→Prop) (st:Stab gh) (lp:Nat) (x:A) (s:S) (K:Act→World→Prop),At N (Cr w0 h1 br (zdr L++SA) vs gh st) (La x) (Ma x s) g K →
  W P N (some lp) (Cr w0 h1 br (zdr L++SA) vs gh st) assign (zipT ps.toList (enc x)++L) (Ms s) g (Exit.then K (fun _ _ _=>False)))
 (round:∀ (κ:S→R) (h1:Hp) (vs:List Value) (gh:(Nat→Prop)→World→Prop) (st:Stab gh) (lp:Nat) (x:A) (s:S),bd x s κ=r→∀ Qr:Exit→Act→World→Prop,
  (∀ s',κ s'=r→At N (Cr w0 h1 br (zdr L++SA) vs gh st) [] (Ms s') g (Qr .normal))→(∀ e s',JX e s'→At N (Cr w0 h1 br (zdr L++SA) vs gh st) [] (MX e s') g (Qr e)) →
  W P N (some lp) (Cr w0 h1 br (zdr L++SA) vs gh st) body (La x) (Ma x s) g Qr)
 (done:∀ s,exit s=r→At N (Cq w0 h0 SA SV br) L (Ms s) g (Q .normal)) (left:∀ e s,JX e s→At N (Cq w0 h0 SA SV br) L (MX e s) g (Q e)):W P N none (Cq w0 h0 SA SV br) (.rangeFunc fop ps assign body) L M g Q:=by
 have key:∀ (k:Nat) (it:List AV),(l.map enc)[k]? = some it→∃ x,l[k]? = some x∧it=enc x∧l.drop k=x::l.drop (k+1):=by
  intro k it h
  rw [List.getElem?_map] at h
  cases hx:l[k]? with
  | none=>simp [hx] at h
  | some x=>
   simp [hx] at h
   obtain ⟨hlt,rfl⟩:=List.getElem?_eq_some_iff.1 hx
   exact ⟨_,rfl,h.symm,List.drop_eq_getElem_cons hlt⟩
 refine W.rangeFunc hf hI (fun it hit=>?_) hpN hpd hLd (S:=S) (fun k s=>Sp.zhY bd exit (l.drop k) s=r) Ms s0 (by simpa using H) hM (fun k=>match l[k]? with|some x=>La x|none=>[]) (fun k s=>match l[k]? with|some x=>Ma x s|none=>[]) JX MX hX hval
  (fun h1 vs gh st lp k it s hit K hK=>?_) (fun h1 vs gh st lp k it s hit hJ Qr hQ hQx=>?_) (fun s hJ=>?_) left
 · obtain ⟨x,_,rfl⟩:=List.mem_map.1 hit
   exact henc x
 · obtain ⟨x,hx,rfl,_⟩:=key k it hit
   simp only [hx] at hK
   exact asg h1 vs gh st lp x s K hK
 · obtain ⟨x,hx,rfl,hd⟩:=key k it hit
   simp only [hx]
   rw [hd] at hJ
   exact round _ h1 vs gh st lp x s hJ Qr hQ hQx
 · refine done s ?_
   rw [List.length_map,List.drop_length] at hJ
   exact hJ
end
def Yl {A:Type} (items:List A) (g:Nat) (r:List A):Prop:=∃ d,items=d++r∧g=d.length+1
theorem Yl.start {A:Type} (items:List A):Yl items 1 items:=⟨[],rfl,rfl⟩
theorem Yl.item {A:Type} {items r:List A} {g:Nat} {Wb:Bool} {x:A} {rest:Option (List A)} (enc:A→List AV) (H:zjO Wb x rest=some r) (hY:Yl items g r) (hW:Wb=true):∃ q,g=q+1∧(items.map enc)[q]? = some (enc x):=by
 subst hW
 obtain ⟨d,rfl,rfl⟩:=hY
 unfold zjO at H
 cases rest with
 | none=>simp at H
 | some l=>
  simp at H;subst H
  exact ⟨d.length,rfl,by simp⟩
theorem Yl.next {A:Type} {items r:List A} {g g':Nat} {Wb:Bool} {x:A} {rest:Option (List A)} (H:zjO Wb x rest=some r) (hY:Yl items g r) (h1:Wb=false→g'=g) (h2:Wb=true→g'=g+1):∃ r',rest=some r'∧Yl items g' r':=by
 obtain ⟨d,rfl,rfl⟩:=hY
 unfold zjO at H
 cases Wb with
 | false=>rw [h1 rfl];exact ⟨r,H,d,rfl,rfl⟩
 | true=>
  rw [h2 rfl]
  cases rest with
  | none=>simp at H
  | some l=>
   simp at H;subst H
   exact ⟨l,rfl,d++[x],by simp,by simp⟩
theorem Yl.fin {A:Type} {items r:List A} {g:Nat} (enc:A→List AV) (H:some []=some r) (hY:Yl items g r):g=(items.map enc).length+1:=by
 cases H
 obtain ⟨d,rfl,rfl⟩:=hY
 simp
section
variable {P:Program} {N:Nat} {C:Ctx} {rr:Option Nat} {L:List (Nat×AV)} {M:List (Nat×Blk)} {g:Nat} {Q:Exit→Act→World→Prop}
theorem W.loopG {S:Type} {c:Code} (J:Nat→S→Prop) (Ls:S→List (Nat×AV)) (Ms:S→List (Nat×Blk)) (gs:S→Nat) {n0:Nat} {s0:S} (h0:J n0 s0) (hL:Agree (fr L) (Ls s0)) (hM:AgreeM M (Ms s0)) (hg:gs s0=g)
 (round:∀ n s,J n s→∀ K:Act→World→Prop,(∀ n' s',n'<n→J n' s'→At N C (Ls s') (Ms s') (gs s') K)→W P N rr C c (Ls s) (Ms s) (gs s) (Exit.then K Q)):W P N rr C (.loop c) L M g Q:=by
 refine At.conv hL hM ?_
 subst hg
 intro h ρ a w I
 let J':Nat→Act→World→Prop:=fun n a w=>∃ s h ρ,J n s∧InvH N C h ρ (fr (Ls s)) (mm (Ms s)) (gs s) a w
 have hex:∃ n,J' n a w:=⟨n0,s0,h,ρ,h0,I⟩
 classical
 let μ:Act→World→Nat:=fun a w=>if hh:∃ n,J' n a w then Classical.choose (exists_least hh) else 0
 have hμ:∀ a w,(hh:∃ n,J' n a w)→J' (μ a w) a w∧∀ m,J' m a w→μ a w≤m:=fun a w hh=>by
  have:μ a w=Classical.choose (exists_least hh):=dif_pos hh
  rw [this]
  exact Classical.choose_spec (exists_least hh)
 refine wpIn_loop (fun a w=>∃ n,J' n a w) μ hex ?_
 intro a w ha
 obtain ⟨⟨s,h,ρ,hJ,I⟩,_⟩:=hμ a w ha
 refine round _ s hJ _ (fun n' s' hlt hJ' h' ρ' a' w' I'=>?_) h ρ a w I
 have hex':∃ n,J' n a' w':=⟨n',s',h',ρ',hJ',I'⟩
 exact ⟨hex',Nat.lt_of_le_of_lt ((hμ a' w' hex').2 n' ⟨s',h',ρ',hJ',I'⟩) hlt⟩
theorem W.zpb {A S:Type} {items:List A} {body:Nat→S→(S→Option (List A))→Option (List A)} {exit:S→Option (List A)} {b:Nat} {s0:S} {r:List A} {c:Code} (H:Sp.zau body exit b 0 s0=some r) (hY:Yl items g r)
 (Ls:Nat→S→List (Nat×AV)) (Ms:Nat→S→List (Nat×Blk)) (hL:Agree (fr L) (Ls 0 s0)) (hM:AgreeM M (Ms 0 s0))
 (round:∀ (κ:S→Option (List A)) (i:Nat) (s:S) (g:Nat) (r:List A),i≤b→Yl items g r→(i<b→body i s κ=some r)→(b≤i→exit s=some r)→∀ K:Act→World→Prop,(i<b→∀ s' g' r',Yl items g' r'→κ s'=some r'→At N C (Ls (i+1) s') (Ms (i+1) s') g' K)→W P N rr C c (Ls i s) (Ms i s) g (Exit.then K Q)) :
 W P N rr C (.loop c) L M g Q:=by
 refine W.loopG (S:=Nat×S×Nat×List A) (n0:=b) (s0:=(0,s0,g,r)) (fun n s=>s.1+n=b∧Yl items s.2.2.1 s.2.2.2∧Sp.zau body exit n s.1 s.2.1=some s.2.2.2) (fun s=>Ls s.1 s.2.1) (fun s=>Ms s.1 s.2.1) (fun s=>s.2.2.1) ⟨Nat.zero_add _,hY,H⟩ hL hM rfl (fun n s hJ K hK=>?_)
 obtain ⟨i,s,g,r⟩:=s
 obtain ⟨h1,hy,h2⟩:=hJ
 simp only at h1 h2 hK hy ⊢
 cases n with
 | zero=>exact round (fun s=>exit s) i s g r (by omega) hy (fun hlt=>by omega) (fun _=>h2) K (fun hlt=>by omega)
 | succ n=>exact round (Sp.zau body exit n (i+1)) i s g r (by omega) hy (fun _=>h2) (fun hge=>by omega) K (fun _ s' g' r' hy' hs'=>hK n (i+1,s',g',r') (Nat.lt_succ_self n) ⟨by simp only;omega,hy',hs'⟩)
theorem At.zoi {w0:World} {h0:Hp} {J:Nat→(Nat→Prop)→World→Prop} {hJ:∀ k,Stab (J k)} {fn:Func} {n:Nat} (H:At N (Ci w0 h0 J hJ) L M g (zpH P fn J n .ret)):At N (Ci w0 h0 J hJ) L M g (zpH P fn J n .normal):=H
theorem W.zfW {op:Operand} {x y:Code} {n:Nat} (hb:evO (fr L) op = .nz n) (ht:n=0→W P N rr C x L M g Q) (hf:W P N rr C y L M g Q):W P N rr C (.cond op x y) L M g Q:=by
 intro h ρ a w I
 have hr:Rel h ρ (.nz n) (a.eval op):=by
  rw [← hb]
  cases op with
  | tmp t=>exact I.slot t
  | const v=>exact Rel.zeL h ρ v
  | func f=>exact .fn _ _ _ _ [] [] rfl rfl (fun i c v hc=>by simp at hc) (fun i c v hc=>by simp at hc)
  | global g=>exact .any _ _
 obtain ⟨b,he,hn⟩:∃ b,a.eval op = .bool b∧(b=true→n=0):=by generalize a.eval op=z at hr;cases hr with|nz _ _ b hb=>exact ⟨b,rfl,hb⟩
 exact wpIn_cond_split he (fun h1=>ht (hn h1) h ρ a w I) (fun _=>hf h ρ a w I)
end
end Go.Av
end
/- Functions that blocks are handed over to. -/
section
set_option linter.all false
namespace Go.Av
open Go.Sp
abbrev Cb (w0:World) (h0:Hp) (ρb:Rho):Ctx:=Cq w0 h0 [] [] (zcs ρb)
def zmm (P:Program) (fn:Func) (h0:Hp) (w0:World) (ρb:Rho) (v:AV) (B:List (Nat×Blk)):Exit→Act→World→Prop:=bodyPostM (Fw none) 1 P fn (zkK h0 w0 ρb v B)
theorem zp0 {k:Nat}:∀ {B:List (Nat×Blk)} {i:Nat},mm (shB k B) (k+i)=(mm B i).map (·.sh k)
 | [],i=>rfl
 | (j,b)::r,i=>by
  simp only [shB,mm,upd]
  by_cases h:i=j
  · subst h;simp
  · have e1:Nat.beq i j=false:=by
     cases hb:Nat.beq i j with
     | false=>rfl
     | true=>exact absurd (Nat.eq_of_beq_eq_true hb) h
    have e2:Nat.beq (k+i) (k+j)=false:=by
     cases hb:Nat.beq (k+i) (k+j) with
     | false=>rfl
     | true=>have:=Nat.eq_of_beq_eq_true hb;omega
    rw [e1,e2]
    exact zp0
theorem zmG {k:Nat}:∀ {B:List (Nat×Blk)} {i:Nat},i<k→mm (shB k B) i=none
 | [],i,_=>rfl
 | (j,b)::r,i,h=>by
  simp only [shB,mm,upd]
  have e2:Nat.beq i (k+j)=false:=by
   cases hb:Nat.beq i (k+j) with
   | false=>rfl
   | true=>have:=Nat.eq_of_beq_eq_true hb;omega
  rw [e2]
  exact zmG h
def LiOk:Blk→Option LI→Prop
 | .cells _,o=>∃ b,o=some (.blk b)
 | .buf _ sz n _,o=>∃ v,o=some (.sl n sz v)∧v.oneCell'=true
 | .bufk _ sz n _ _,o=>∃ v,o=some (.sl n sz v)∧v.oneCell'=true
 | .iter _ _ _,o=>∃ b,o=some (.blk b)
 | .map _ _ _ _,o=>∃ b,o=some (.blk b)
 | .dead,o=>∃ n sz,o=some (.sl n sz (.slice none 0 0))
 | .grid _ _ sz _ _ _,o=>∃ v rows,o=some (.grid v sz rows)
 | .gmap _ _ _ _ _ _ _,o=>∃ b R,o=some (.rows (some b) R)
 | .rows _ _ _ _ _ _ _,o=>∃ R,o=some (.rows none R)
theorem ze7 {w:World} {base:Nat} {e:TypeId} {size:Nat} {v:Value} {n:Nat} {xs:List Value} (h:w.ownsRow base e size v n xs):v.oneCell'=true:=by
 rcases h.2 with ⟨rfl,_⟩|⟨g,cap,cur,rfl,_⟩ <;> rfl
theorem zbJ.li {h:Hp} {ρ:Rho} {id:Nat} {x:Blk} {w:World} (H:zbJ h ρ id x w):LiOk x (ρ id):=by
 cases x with
 | cells cs=>obtain ⟨b,vs,ty,q1,_⟩:=H;exact ⟨_,q1⟩
 | buf ty sz n e=>obtain ⟨v,xs,q1,q2,_⟩:=H;exact ⟨_,q1,ze7 q2⟩
 | map z dom e n=>obtain ⟨b,es,clock,ks,q1,_⟩:=H;exact ⟨_,q1⟩
 | iter e cur Pl=>obtain ⟨b,bm,clock,c0,es,seen,left,q1,_⟩:=H;exact ⟨_,q1⟩
 | bufk ty sz n c e=>obtain ⟨v,xs,q1,q2,_⟩:=H;exact ⟨_,q1,ze7 q2⟩
 | dead=>obtain ⟨n,sz,q1⟩:=H;exact ⟨_,_,q1⟩
 | grid tS ty sz n m e=>obtain ⟨v,rows,q1,_⟩:=H;exact ⟨_,_,q1⟩
 | gmap ty sz n dom m e out=>obtain ⟨b,es,clock,ks,R,q1,_⟩:=H;exact ⟨_,_,q1⟩
 | rows ty sz hd dom m e out=>obtain ⟨R,q1,_⟩:=H;exact ⟨_,q1⟩
def zqj (SA:List AV) (SV:List Value) (ρb:Rho) (k:Nat) (B0:List (Nat×Blk)):Prop:=
 ∀ (h':Hp) (ρ':Rho),(∀ (i:Nat) (c:AV) (v:Value),SA[i]? = some c→SV[i]? = some v→Rel h' ρ' c v)→(∀ id x,mm B0 id=some x→LiOk x (ρ' id))→(∀ id,mm B0 id=none→ρ' id=none) →
  ∀ i li li',ρb (k+i)=some li→ρ' i=some li'→li.le li'
theorem zlU {B:List (Nat×Blk)} {id:Nat} (h:id ∉ zaC B):mm B id=none:=by
 cases hz:mm B id with
 | none=>rfl
 | some z=>exact absurd (zdU.2 (by rw [hz];rfl)) h
def zkZ (l:List Nat):List Nat→Bool
 | []=>true
 | i::r=>match zbc l i with
  | true=>false
  | false=>zkZ l r
theorem ziJ {l:List Nat}:∀ {r:List Nat},zkZ l r=true→∀ i,i∈r→i ∉ l
 | [],_,i,h=>by cases h
 | j::r,h,i,hi=>by
  simp only [zkZ] at h
  split at h
  · cases h
  · rename_i hj
    rcases List.mem_cons.1 hi with rfl|h3
    · intro hm;rw [zdN hm] at hj;cases hj
    · exact ziJ h i h3
theorem znH {SA:List AV} {SV:List Value} {ρb:Rho} {k:Nat} {A B0:List (Nat×Blk)} (hdom:∀ id,mm A id=none→ρb id=none) (hd:zkZ (zaC A) (zaC (shB k B0))=true):zqj SA SV ρb k B0:=by
 intro h' ρ' _ _ h3 i li li' q1 q2
 have hi:i∈zaC B0:=by
  refine zdU.2 ?_
  cases hz:mm B0 i with
  | none=>rw [h3 i hz] at q2;cases q2
  | some z=>rfl
 have hk:k+i∈zaC (shB k B0):=by rw [zir];exact List.mem_map_of_mem hi
 rw [hdom _ (zlU (ziJ hd _ hk))] at q1;cases q1
section
variable {P:Program} {N:Nat} {Γ:Tys} {L:List (Nat×AV)} {M:List (Nat×Blk)} {g:Nat}
theorem At.retO (hΓ:zbb P Γ) {w0:World} {h0:Hp} {ρb:Rho} {fn:Func} {v:AV} {B B0:List (Nat×Blk)} {xs:List AV} (K:List Nat) (k:Nat) (hr:resL Γ (fr L) (mm M) fn.results.toList=some xs) (ho:zay K (resV xs)=true) (hB:zdE K M K=some B0) (hBo:zc5 K B0=true) (hBs:AgreeM (shB k B0) B) (hs:Sim ((resV xs).sh k) v)
 (hval:∀ b o,h0 b=some o→w0.heap[b]? = some o) {SA:List AV} {SV:List Value} (hsa:zde K SA=true) (hst:zqj SA SV ρb k B0):At N (Cq w0 h0 SA SV (zcs ρb)) L M g (zmm P fn h0 w0 ρb v B .ret):=by
 intro h ρ a w I
 obtain ⟨Ds,hd1,hd2,hd3⟩:=I.dfr
 show LeavesInM (Fw none) 1 P fn a.tmps (zkK h0 w0 ρb v B) a.defers .returning w
 rw [hd1]
 refine leaves Ds w hd2 (fun D hD=>I.hp _ _ (hd3 D hD).1) (fun w2 e1 e2 e3 e4 e5=>?_)
 have hnc:∀ (b:Nat) (o:Obj),w.heap[b]? = some o→(∀ d,o ≠ .deferred d)→w2.heap[b]? = some o:=fun b o hb hno=>by
  have:b ∉ Ds:=fun hb'=>by
   have:=I.hp _ _ (hd3 b hb').1
   rw [hb] at this;cases this
   exact hno _ rfl
  rw [e5 b this];exact hb
 obtain ⟨vs,h1,h2⟩:=zjC (w2:=w2) hΓ I (fun b o hb ho=>hnc b o hb (fun d e=>by subst e;simp [Obj.isCells] at ho)) hr
 have hres:(results fn a.tmps).run P w2 = .ok (if h:vs.length=1 then vs[0] else .tuple vs.toArray) w2:=by
  unfold results
  rw [Array.mapM_eq_mapM_toList]
  rw [map_eq_pure_bind]
  simp only [Sem.run_bind,Sem.run_pure]
  have key:∀ r:Result (List Value),r = .ok vs w2→(r.andThen fun a w'=>.ok a.toArray w').andThen (fun a w'=>Result.ok (if h:a.size=1 then a[0] else Value.tuple a) w') = .ok (if h:vs.length=1 then vs[0] else .tuple vs.toArray) w2:=by
   rintro _ rfl
   simp only [Result.andThen_ok,List.size_toArray,List.getElem_toArray]
  exact key _ h1
 refine ⟨_,hres,?_⟩
 obtain ⟨ρ',hρ,I'⟩:=I.forget (ts:=[]) (L':=[]) rfl hB hsa
 let h':Hp:=fun b=>if b∈Ds then none else h b
 have hle:Le h h':=by
  intro b o hb _ hno
  show (if b∈Ds then none else h b)=some o
  rw [if_neg ?_]
  · exact hb
  · intro hbD
    rw [(hd3 b hbD).1] at hb;cases hb
    exact hno _ rfl
 let ρ2:Rho:=fun j=>if k≤j then ρ' (j - k) else none
 have hin:∀ i,ρ2 (k+i)=ρ' i:=fun i=>by
  show (if k≤k+i then ρ' (k+i - k) else none)=ρ' i
  rw [if_pos (Nat.le_add_right _ _),Nat.add_sub_cancel_left]
 have hinv:∀ j li,ρ2 j=some li→∃ i,j=k+i∧ρ' i=some li:=fun j li hj=>by
  have:(if k≤j then ρ' (j - k) else none)=some li:=hj
  split at this
  · exact ⟨j - k,by omega,this⟩
  · cases this
 have hok:∀ i x,mm B0 i=some x→zeh K x=true:=by
  have key:∀ {ids:List Nat} {B':List (Nat×Blk)},zc5 ids B'=true→∀ i x,mm B' i=some x→zeh ids x=true:=by
   intro ids B'
   induction B' with
   | nil=>intro _ i x hx;cases hx
   | cons y r ih=>
    obtain ⟨j,b⟩:=y
    intro ho i x hx
    unfold zc5 at ho
    split at ho
    · rename_i hb
      simp only [mm,upd] at hx
      split at hx
      · cases hx;exact hb
      · exact ih ho i x hx
    · cases ho
  exact key hBo
 have hmem:∀ i x,mm B0 i=some x→i∈K:=by
  have key:∀ {is:List Nat} {M'':List (Nat×Blk)},zdE K M is=some M''→∀ i b,mm M'' i=some b→i∈is:=by
   intro is
   induction is with
   | nil=>intro M'' h i b hb;simp only [zdE] at h;cases h;cases hb
   | cons s is ih=>
    intro M'' h i b hb
    simp only [zdE] at h
    split at h
    · cases h
    · split at h
      · split at h
        · rename_i r hr
          cases h
          simp only [mm,upd] at hb
          split at hb
          · rename_i hbe;have:=Nat.eq_of_beq_eq_true hbe;subst this;exact List.mem_cons_self ..
          · exact List.mem_cons_of_mem _ (ih hr i b hb)
        · cases h
      · cases h
  exact key hB
 refine ⟨h',ρ2,e1.trans I.os,e2.trans I.tape,e3.trans I.out,by rw [e4];exact I.sz,fun kk hk hb=>?_,fun b o hb=>?_,fun b o hb=>?_,?_,⟨fun id y hy=>?_,fun id hid=>?_,fun id li b q1 q2=>?_,fun id id' li li' b q1 q1' q2 q2'=>?_⟩,fun id li b q1 q2=>?_,fun id li li' q1 q2=>?_⟩
 · rw [e5 kk (fun hkD=>by have:=(hd3 kk hkD).2;exact absurd hk (Nat.not_lt.2 this))]
   exact I.kept kk hk hb
 · show (if b∈Ds then none else h b)=some o
   rw [if_neg (fun hbD=>absurd (zfe (hval b _ hb)) (Nat.not_lt.2 (hd3 b hbD).2))]
   exact I.ext b o hb
 · have hb':b ∉ Ds∧h b=some o:=by
    have:(if b∈Ds then none else h b)=some o:=hb
    split at this
    · cases this
    · exact ⟨by assumption,this⟩
   rcases Nat.lt_or_ge b w0.heap.size with hlt|hge
   · exact .inl (I.old b o hb'.2 hlt)
   · right
     refine ⟨hge,?_⟩
     rw [e5 b hb'.1]
     exact I.hp b o hb'.2
 · refine hs _ _ _ ?_
   have:=((zmv h2).forget hρ ho).heap hle
   exact this.shift (fun id _=>hin id) ho
 · obtain ⟨y0,q1,q2⟩:=(hBs.spec id).2 y hy
   rcases Nat.lt_or_ge id k with hlt|hge
   · rw [zmG hlt] at q1;cases q1
   · obtain ⟨i,rfl⟩:∃ i,id=k+i:=⟨id - k,by omega⟩
     rw [zp0] at q1
     cases hz:mm B0 i with
     | none=>simp [hz] at q1
     | some z=>
      simp [hz] at q1
      subst q1
      refine q2 _ _ _ _ ?_
      have hb:=(I'.blk i z hz).keep hle rfl (zcM _) (w':=w2) (fun li b q3 q4=>e5 b (fun hbD=>by
       have:=(I'.own i li b q3 q4).1
       rw [(hd3 b hbD).1] at this;cases this))
      exact hb.shift (ids:=K) (fun id _=>hin id) (hmem i z hz) (hok i z hz)
 · cases hp:ρ2 id with
   | none=>rfl
   | some li=>
    obtain ⟨i,rfl,q1⟩:=hinv id li hp
    have:=((hBs.spec (k+i)).1).1 hid
    rw [zp0] at this
    have h3:mm B0 i=none:=by
     cases hz:mm B0 i with
     | none=>rfl
     | some z=>simp [hz] at this
    rw [I'.dom i h3] at q1;cases q1
 · obtain ⟨i,rfl,q3⟩:=hinv id li q1
   obtain ⟨z1,z2,z3⟩:=I'.own i li b q3 q2
   refine ⟨?_,by rw [e4];exact z2⟩
   show (if b∈Ds then none else h b)=none
   split
   · rfl
   · exact z1
 · obtain ⟨i,rfl,q3⟩:=hinv id li q1
   obtain ⟨i',rfl,q3'⟩:=hinv id' li' q1'
   rw [I'.inj i i' li li' b q3 q3' q2 q2']
 · obtain ⟨i,rfl,q3⟩:=hinv id li q1
   obtain ⟨z1,z2,z3⟩:=I'.own i li b q3 q2
   exact z3.symm
 · obtain ⟨i,rfl,q3⟩:=hinv id li' q2
   exact hst h ρ' I'.sav.2 (fun id x hx=>(I'.blk id x hx).li) I'.dom i li li' q1 q3
theorem At.retK (hΓ:zbb P Γ) {w0:World} {h0:Hp} {ρb:Rho} {fn:Func} {v:AV} {A B B0:List (Nat×Blk)} {xs:List AV} (K:List Nat) (k:Nat) (hr:resL Γ (fr L) (mm M) fn.results.toList=some xs) (ho:zay K (resV xs)=true) (hB:zdE K M K=some B0) (hBo:zc5 K B0=true) (hBs:AgreeM (shB k B0) B) (hs:Sim ((resV xs).sh k) v)
 (hval:∀ b o,h0 b=some o→w0.heap[b]? = some o) (hdom:∀ id,mm A id=none→ρb id=none) (hd:zkZ (zaC A) (zaC (shB k B0))=true):At N (Cb w0 h0 ρb) L M g (zmm P fn h0 w0 ρb v B .ret):=
 At.retO hΓ K k hr ho hB hBo hBs hs hval rfl (znH hdom hd)
theorem At.zdA {w0:World} {h0:Hp} {ρb:Rho} {fn:Func} {v:AV} {B:List (Nat×Blk)} {SA:List AV} {SV:List Value} (H:At N (Cq w0 h0 SA SV (zcs ρb)) L M g (zmm P fn h0 w0 ρb v B .ret)):At N (Cq w0 h0 SA SV (zcs ρb)) L M g (zmm P fn h0 w0 ρb v B .normal):=H
theorem CtrO.zam {f : FuncId} {fn : Func} {c : Code} {xs : List AV} {v : AV} {A B : List (Nat × Blk)} (hf : P.funcs[f]? = some fn) (hn : (fn.name == "runtime.NumGoroutine") = false) (hb : fn.body = some c) (hN : fn.ntmps = N) (hx : Nat.ble xs.length N = true)
 (H:∀ w0 h0 ρb,(∀ b o,h0 b=some o→w0.heap[b]? = some o)→(∀ id,mm A id=none→ρb id=none)→W P N none (Cb w0 h0 ρb) c (argL 0 xs) A 0 (zmm P fn h0 w0 ρb v B)):CtrO P f xs A v B:=by
 refine ⟨enters_of hf hn hb,fun h w ρ vs hR hp O=>?_⟩
 refine zcV (n:=1) (callsIn_of_wp_marks hf hb trivial ?_)
 refine H w h ρ hp O.dom h ρ _ w ?_
 have hlen:vs.length≤N:=by rw [hR.1];exact Nat.le_of_ble_eq_true hx
 refine ⟨fun t=>?_,⟨rfl,fun i c v h1=>by simp [Cb,Cq] at h1⟩,?_,hp,O.blk,O.dom,fun id li b q1 q2=>⟨(O.own id li b q1 q2).1,(O.own id li b q1 q2).2,.inr ⟨id,li,q1,q2⟩⟩,O.inj,rfl,rfl,rfl,Nat.le_refl _,fun _ _ _=>rfl,fun b o hb=>hb,fun b o hb _=>hb,⟨fun _=>True,fun _ _=>trivial,fun _ _ _=>.inr trivial,trivial⟩,⟨[],rfl,List.nodup_nil,fun D hD=>(by cases hD)⟩⟩
 · rcases zho (h:=h) (ρ:=ρ) 0 hR t with e|⟨i,u,e1,e2,e3⟩
   · rw [e];exact .any _ _
   · have e0:t=i:=by omega
     subst e0
     have hi:t<vs.length:=(List.getElem?_eq_some_iff.1 e2).1
     have:(vs.toArray++Array.replicate (fn.ntmps - vs.toArray.size) undef).getD t undef=u:=by
      have e4:vs[t]=u:=by have:=List.getElem?_eq_getElem hi;rw [this] at e2;exact Option.some.inj e2
      simp [Array.getElem?_append,hi,e4]
     rw [this]
     exact e3
 · simp [hN];omega
theorem CtrO.at {f:FuncId} {n ty sz n':Nat} {e:Nat→List AV} {rest:List AV} {v:AV} {B:List (Nat×Blk)} {id0:Nat} (H:CtrO P f (.buf id0 n::rest) [(id0,.buf ty sz n' e)] v B) (hc:clL rest=true) (id:Nat) (hB:zbc (zaC B) id=false:=by rfl):CtrO P f (.buf id n::rest) [(id,.buf ty sz n' e)] v B:=by
 refine ⟨H.1,fun h w ρ vs hR hp O=>?_⟩
 let ρ2:Rho:=fun j=>if j=id0 then ρ id else none
 have h2:ρ2 id0=ρ id:=if_pos rfl
 have hinv:∀ j li,ρ2 j=some li→j=id0∧ρ id=some li:=fun j li hj=>by
  have:(if j=id0 then ρ id else none)=some li:=hj
  split at this
  · exact ⟨by assumption,this⟩
  · cases this
 have hset:∀ b,zcs ρ2 b↔zcs ρ b:=fun b=>by
  constructor
  · rintro ⟨j,li,q1,q2⟩
    exact ⟨id,li,(hinv j li q1).2,q2⟩
  · rintro ⟨j,li,q1,q2⟩
    have hj:j=id:=by
     cases hz:mm [(id,Blk.buf ty sz n' e)] j with
     | none=>rw [O.dom j hz] at q1;cases q1
     | some z=>
      simp only [mm,upd] at hz
      split at hz
      · rename_i hb;exact Nat.eq_of_beq_eq_true hb
      · cases hz
    subst hj
    exact ⟨id0,li,h2.trans q1,q2⟩
 obtain ⟨x,r,rfl,q1,q2⟩:=hR.zdC
 have hR2:RelL h ρ2 (.buf id0 n::rest) (x::r):=by
  refine RelL.cons ?_ (q2.zdu hc)
  cases q1 with
  | buf _ _ _ n2 sz2 _ v' hb hle h1 he=>exact .buf _ _ _ _ _ _ _ (h2.trans hb) hle h1 he
 have hO2:Ownd h ρ2 [(id0,.buf ty sz n' e)] w:=by
  refine ⟨fun j y hj=>?_,fun j hj=>?_,fun j li b q3 q4=>O.own id li b (hinv j li q3).2 q4,fun j j' li li' b q3 q3' _ _=>by rw [(hinv j li q3).1,(hinv j' li' q3').1]⟩
  · simp only [mm,upd] at hj
    split at hj
    · rename_i hb
      have:=Nat.eq_of_beq_eq_true hb
      subst this
      cases hj
      obtain ⟨v0,us,k1,k2⟩:=O.blk id (.buf ty sz n' e) (by simp [mm,upd])
      exact ⟨v0,us,h2.trans k1,k2⟩
    · cases hj
  · cases hp2:ρ2 j with
    | none=>rfl
    | some li=>
     obtain ⟨rfl,_⟩:=hinv j li hp2
     simp [mm,upd] at hj
 refine (H.2 h w ρ2 _ hR2 hp hO2).mono (fun en w' he=>?_)
 cases en with
 | panicked ch=>exact he.elim
 | outgrown=>exact he.elim
 | returned x=>
 obtain ⟨h',ρ',p1,p2,p3,p4,p5,p6,p7,p8,p9,p10,_⟩:=he
 refine ⟨h',ρ',p1,p2,p3,p4,fun kk hk hn=>p5 kk hk (fun ho=>hn ((hset kk).1 ho)),p6,p7,p8,p9,fun i li b q3 q4=>(p10 i li b q3 q4).imp (fun h=>(hset b).1 h) (fun h=>h),fun i li li' q3 q4=>?_⟩
 exfalso
 by_cases hi:i=id
 · subst hi
   have:i ∉ zaC B:=fun hm=>by rw [zdN hm] at hB;cases hB
   rw [p9.dom i (zlU this)] at q4;cases q4
 · rw [O.dom i (by simp only [mm];rw [zae _ _ hi])] at q3;cases q3
theorem BSim.bufk {ty sz n c:Nat} {e:Nat→List AV} {y:Blk} (H:BSim (.buf ty sz n e) y):BSim (.bufk ty sz n c e) y:=by
 intro h ρ id w B
 obtain ⟨v,xs,q1,q2,_,q3⟩:=B
 exact H h ρ id w ⟨v,xs,q1,q2,q3⟩
theorem Seg.moved {T:Type} [Inhabited T] {f:T→List AV} {l:List T} (b j:Nat) (hb:b≤j) (hj:j≤l.length):Seg f (b+(l.length - j)) (fun q=>if q<b then f (l.getD q default) else f (l.getD (j+(q - b)) default)) (l.take b++l.drop j):=by
 refine ⟨by simp;omega,fun k hk=>?_⟩
 by_cases h:k<b
 · simp only [h,if_true]
   simp [List.getD_eq_getElem?_getD,List.getElem?_append_left (show k<(l.take b).length by simp;omega),List.getElem?_take,h]
 · simp only [h,if_false]
   have hl:(l.take b).length=b:=by simp;omega
   simp only [List.getD_eq_getElem?_getD]
   rw [List.getElem?_append_right (by rw [hl];omega),hl,List.getElem?_drop]
theorem zd8 {id n m:Nat} (h:n=m):AV.buf id n=AV.buf id m:=h▸rfl
end
def zqf {T:Type} [Inhabited T] (ty sz c:Nat) (f:T→List AV) (l:List T):Blk:=.bufk ty sz l.length c (fun i=>f (l.getD i default))
theorem BSim.kseg {T:Type} [Inhabited T] {ty sz c n:Nat} {f:T→List AV} {e:Nat→List AV} {l:List T} (H:Seg f n e l):BSim (.bufk ty sz n c e) (zqf ty sz c f l):=by
 obtain ⟨rfl,he⟩:=H
 intro h ρ id w B
 obtain ⟨v,xs,q1,q2,q3,q4,q5,q6⟩:=B
 exact ⟨v,xs,q1,q2,q3,fun i hi=>by have:=q4 i hi;rw [he i hi] at this;exact this,q5,fun i j c x hi hc hx=>q6 i j c x hi (by rw [he i hi];exact hc) hx⟩
theorem Ctr.ofO {P:Program} {f:FuncId} {args:List AV} {v:AV} {B:List (Nat×Blk)} (H:CtrO P f args [] v B):Ctr P f args v B:=by
 refine ⟨H.1,fun h w vs hR hp=>?_⟩
 have hno:∀ b,¬ zcs ρ0 b:=fun b ⟨id,li,q,_⟩=>by cases q
 refine (H.2 h w ρ0 vs hR hp ⟨fun id x hx=>(by cases hx),fun _ _=>rfl,fun id li b q=>(by cases q),fun id id' li li' b q=>(by cases q)⟩).mono (fun en w' he=>?_)
 cases en with
 | panicked ch=>exact he.elim
 | outgrown=>exact he.elim
 | returned x=>
 obtain ⟨h',ρ',p1,p2,p3,p4,p5,p6,p7,p8,p9,p10,_⟩:=he
 exact ⟨h',ρ',⟨p1,p2,p3,p4,fun k hk=>p5 k hk (hno k)⟩,p6,p7,p8,⟨p9.blk,p9.dom,fun id li b q1 q2=>⟨(p9.own id li b q1 q2).1,(p10 id li b q1 q2).resolve_left (hno b),(p9.own id li b q1 q2).2⟩,p9.inj⟩⟩
section
variable {N:Nat} {C:Ctx} {L:List (Nat×AV)} {M:List (Nat×Blk)} {g:Nat} {R:Act→World→Prop}
end
end Go.Av
end
/- Functions that blocks are lent to: these come back under their names. Names may be changed. -/
section
set_option linter.all false
namespace Go.Av
open Go.Sp
def ref:Nat×Blk→AV
 | (id,.cells _)=>.lp id 0
 | (id,.buf _ _ n _)=>.buf id n
 | (id,.map _ _ _ _)=>.mp id
 | _=>.any
def refs:List (Nat×Blk)→List AV
 | []=>[]
 | x::r=>ref x::refs r
def refV (ρ:Rho):Nat×Blk→Value
 | (id,.cells _)=>match ρ id with
  | some (.blk b)=>.pointer (some ⟨b,0,none⟩)
  | _=>undef
 | (id,.buf _ _ _ _)=>match ρ id with
  | some (.sl _ _ v)=>v
  | _=>undef
 | (id,.map _ _ _ _)=>match ρ id with
  | some (.blk b)=>.map (some b)
  | _=>undef
 | _=>undef
def ziH (ρ:Rho):List (Nat×Blk)→List Value
 | []=>[]
 | x::r=>refV ρ x::ziH ρ r
def zlS:Blk→Blk→Bool
 | .cells _,.cells _=>true
 | .map _ _ _ _,.map _ _ _ _=>true
 | .buf _ sz _ _,.buf _ sz' _ _=>Nat.beq sz sz'
 | .buf _ sz _ _,.bufk _ sz' _ _ _=>Nat.beq sz sz'
 | _,_=>false
def sameShape (B0:List (Nat×Blk)):List (Nat×Blk)→Bool
 | []=>true
 | (i,x)::r=>match mm B0 i with
  | none=>sameShape B0 r
  | some y=>match zlS x y with
   | true=>sameShape B0 r
   | false=>false
theorem zmz {ρ:Rho}:∀ {A:List (Nat×Blk)} {i:Nat} {x:Nat×Blk},A[i]? = some x→(refs A)[i]? = some (ref x)∧(ziH ρ A)[i]? = some (refV ρ x)
 | [],i,x,h=>by simp at h
 | y::A,0,x,h=>by simp at h;subst h;exact ⟨rfl,rfl⟩
 | y::A,i+1,x,h=>by
  simp only [List.getElem?_cons_succ] at h
  have:=zmz (ρ:=ρ) h
  simpa [refs,ziH] using this
theorem zmx {ρ:Rho}:∀ {A:List (Nat×Blk)},(ziH ρ A).length=(refs A).length
 | []=>rfl
 | y::A=>by simp [refs,ziH,zmx (A:=A)]
theorem zmy {ρ:Rho}:∀ {A:List (Nat×Blk)} {i:Nat} {c:AV} {v:Value},(refs A)[i]? = some c→(ziH ρ A)[i]? = some v→∃ x,A[i]? = some x∧c=ref x∧v=refV ρ x
 | [],i,c,v,h,_=>by simp [refs] at h
 | y::A,0,c,v,h,k=>by simp [refs] at h;simp [ziH] at k;exact ⟨y,rfl,h.symm,k.symm⟩
 | y::A,i+1,c,v,h,k=>by
  simp only [refs,List.getElem?_cons_succ] at h
  simp only [ziH,List.getElem?_cons_succ] at k
  obtain ⟨x,q1,q2,q3⟩:=zmy h k
  exact ⟨x,by simpa using q1,q2,q3⟩
theorem zpJ:∀ {A:List (Nat×Blk)} {id:Nat} {x:Blk},mm A id=some x→∃ i:Nat,A[i]? = some (id,x)
 | [],id,x,h=>by cases h
 | (j,y)::A,id,x,h=>by
  simp only [mm,upd] at h
  split at h
  · rename_i hb
    have:=Nat.eq_of_beq_eq_true hb
    subst this
    cases h
    exact ⟨0,rfl⟩
  · obtain ⟨i,hi⟩:=zpJ h
    exact ⟨i+1,by simpa using hi⟩
theorem zpK:∀ {A:List (Nat×Blk)} {i id:Nat} {x:Blk},zfI (zaC A)=true→A[i]? = some (id,x)→mm A id=some x
 | [],i,id,x,_,h=>by simp at h
 | (j,y)::A,0,id,x,_,h=>by simp at h;obtain ⟨rfl,rfl⟩:=h;simp [mm,upd]
 | (j,y)::A,i+1,id,x,hn,h=>by
  simp only [List.getElem?_cons_succ] at h
  obtain ⟨n1,n2⟩:=zgj (i:=j) (r:=zaC A) hn
  have:=zpK n2 h
  have hne:id≠j:=fun e=>n1 (by subst e;exact zdU.2 (by rw [this];rfl))
  simp only [mm]
  rw [zae _ _ hne]
  exact this
theorem zeI {B0:List (Nat×Blk)}:∀ {A:List (Nat×Blk)},sameShape B0 A=true→∀ (i id:Nat) (x y:Blk),A[i]? = some (id,x)→mm B0 id=some y→zlS x y=true
 | [],_,i,id,x,y,h,_=>by simp at h
 | (j,z)::A,hs,i,id,x,y,h,hy=>by
  simp only [sameShape] at hs
  cases i with
  | zero=>
   simp at h
   obtain ⟨rfl,rfl⟩:=h
   simp only [hy] at hs
   split at hs
   · assumption
   · cases hs
  | succ i=>
   simp only [List.getElem?_cons_succ] at h
   split at hs
   · exact zeI hs i id x y h hy
   · split at hs
     · exact zeI hs i id x y h hy
     · cases hs
theorem zm4 {ρb:Rho} {A B0:List (Nat×Blk)} (hdom:∀ id,mm A id=none→ρb id=none) (hent:∀ id x,mm A id=some x→LiOk x (ρb id)) (hs:sameShape B0 A=true):zqj (refs A) (ziH ρb A) ρb 0 B0:=by
 intro h' ρ' h1 h2 h3 id li li' q1 q2
 rw [Nat.zero_add] at q1
 cases hx:mm A id with
 | none=>rw [hdom id hx] at q1;cases q1
 | some x=>
 cases hy:mm B0 id with
 | none=>rw [h3 id hy] at q2;cases q2
 | some y=>
 obtain ⟨i,hi⟩:=zpJ hx
 obtain ⟨r1,r2⟩:=zmz (ρ:=ρb) hi
 have hrel:=h1 i _ _ r1 r2
 have hsh:=zeI hs i id x y hi hy
 have hA:=hent id x hx
 have hB:=h2 id y hy
 cases x <;> cases y <;> simp only [zlS] at hsh <;> (try (cases hsh;done))
 case cells.cells=>
  obtain ⟨b,e1⟩:=hA
  obtain ⟨b',e2⟩:=hB
  rw [e1] at q1;cases q1
  rw [e2] at q2;cases q2
  simp only [ref,refV,e1] at hrel
  cases hrel with
  | lp _ _ _ b2 hb=>rw [e2] at hb;cases hb;exact .inl rfl
 case map.map=>
  obtain ⟨b,e1⟩:=hA
  obtain ⟨b',e2⟩:=hB
  rw [e1] at q1;cases q1
  rw [e2] at q2;cases q2
  simp only [ref,refV,e1] at hrel
  cases hrel with
  | mp _ _ li2 b2 hb hmb=>rw [e2] at hb;cases hb;cases hmb;exact .inl rfl
 case buf.buf=>
  rename_i ty sz n e ty' sz' n' e'
  have hsz:=Nat.eq_of_beq_eq_true hsh
  subst hsz
  obtain ⟨v,e1,_⟩:=hA
  obtain ⟨v',e2,_⟩:=hB
  rw [e1] at q1;cases q1
  rw [e2] at q2;cases q2
  simp only [ref,refV,e1] at hrel
  generalize v=u at hrel
  cases hrel with
  | buf _ _ _ n2 sz2 _ v2 hb hle h1' he=>
   rw [e2] at hb;cases hb
   rcases Nat.lt_or_ge n n' with hlt|hge
   · exact .inr (.inl ⟨_,_,_,_,_,rfl,rfl,hlt⟩)
   · have hn:n=n':=by omega
     subst hn
     rw [he rfl];exact .inl rfl
 case buf.bufk=>
  rename_i ty sz n e ty' sz' n' c' e'
  have hsz:=Nat.eq_of_beq_eq_true hsh
  subst hsz
  obtain ⟨v,e1,_⟩:=hA
  obtain ⟨v',e2,_⟩:=hB
  rw [e1] at q1;cases q1
  rw [e2] at q2;cases q2
  simp only [ref,refV,e1] at hrel
  generalize v=u at hrel
  cases hrel with
  | buf _ _ _ n2 sz2 _ v2 hb hle h1' he=>
   rw [e2] at hb;cases hb
   rcases Nat.lt_or_ge n n' with hlt|hge
   · exact .inr (.inl ⟨_,_,_,_,_,rfl,rfl,hlt⟩)
   · have hn:n=n':=by omega
     subst hn
     rw [he rfl];exact .inl rfl
theorem zpU {h:Hp} {ρ:Rho} {id:Nat} {x:Blk} (H:LiOk x (ρ id)):Rel h ρ (ref (id,x)) (refV ρ (id,x)):=by
 cases x with
 | cells cs=>obtain ⟨b,e⟩:=H;simp only [ref,refV,e];exact .lp _ _ _ _ e
 | buf ty sz n f=>obtain ⟨v,e,h1⟩:=H;simp only [ref,refV,e];exact .buf _ _ _ _ _ _ _ e (Nat.le_refl _) h1 (fun _=>rfl)
 | map z d f n=>obtain ⟨b,e⟩:=H;simp only [ref,refV,e];exact .mp _ _ _ _ e rfl
 | bufk|dead|grid|iter|gmap|rows=>exact .any _ _
section
variable {P:Program} {N:Nat}
theorem CtrL.zam {f : FuncId} {fn : Func} {c : Code} {xs : List AV} {v : AV} {A B : List (Nat × Blk)} (hf : P.funcs[f]? = some fn) (hn : (fn.name == "runtime.NumGoroutine") = false) (hb : fn.body = some c) (hN : fn.ntmps = N) (hx : Nat.ble xs.length N = true) (hA : zfI (zaC A) = true)
 (H:∀ w0 h0 ρb,(∀ b o,h0 b=some o→w0.heap[b]? = some o)→(∀ id,mm A id=none→ρb id=none)→(∀ id x,mm A id=some x→LiOk x (ρb id))→W P N none (Cq w0 h0 (refs A) (ziH ρb A) (zcs ρb)) c (argL 0 xs) A 0 (zmm P fn h0 w0 ρb v B)):CtrO P f xs A v B:=by
 refine ⟨enters_of hf hn hb,fun h w ρ vs hR hp O=>?_⟩
 refine zcV (n:=1) (callsIn_of_wp_marks hf hb trivial ?_)
 refine H w h ρ hp O.dom (fun id x hx=>(O.blk id x hx).li) h ρ _ w ?_
 have hlen:vs.length≤N:=by rw [hR.1];exact Nat.le_of_ble_eq_true hx
 refine ⟨fun t=>?_,⟨zmx,fun i c v h1 h2=>?_⟩,?_,hp,O.blk,O.dom,fun id li b q1 q2=>⟨(O.own id li b q1 q2).1,(O.own id li b q1 q2).2,.inr ⟨id,li,q1,q2⟩⟩,O.inj,rfl,rfl,rfl,Nat.le_refl _,fun _ _ _=>rfl,fun b o hb=>hb,fun b o hb _=>hb,⟨fun _=>True,fun _ _=>trivial,fun _ _ _=>.inr trivial,trivial⟩,⟨[],rfl,List.nodup_nil,fun D hD=>(by cases hD)⟩⟩
 · rcases zho (h:=h) (ρ:=ρ) 0 hR t with e|⟨i,u,e1,e2,e3⟩
   · rw [e];exact .any _ _
   · have e0:t=i:=by omega
     subst e0
     have hi:t<vs.length:=(List.getElem?_eq_some_iff.1 e2).1
     have:(vs.toArray++Array.replicate (fn.ntmps - vs.toArray.size) undef).getD t undef=u:=by
      have e4:vs[t]=u:=by have:=List.getElem?_eq_getElem hi;rw [this] at e2;exact Option.some.inj e2
      simp [Array.getElem?_append,hi,e4]
     rw [this]
     exact e3
 · obtain ⟨⟨id,x⟩,q1,rfl,rfl⟩:=zmy h1 h2
   exact zpU (O.blk id x (zpK hA q1)).li
 · simp [hN];omega
end
section
variable {P:Program} {N:Nat} {Γ:Tys} {L:List (Nat×AV)} {M:List (Nat×Blk)} {g:Nat}
theorem At.retL (hΓ:zbb P Γ) {w0:World} {h0:Hp} {ρb:Rho} {fn:Func} {v:AV} {A B B0:List (Nat×Blk)} {xs:List AV} (K:List Nat) (hr:resL Γ (fr L) (mm M) fn.results.toList=some xs) (ho:zay K (resV xs)=true) (hB:zdE K M K=some B0) (hBo:zc5 K B0=true) (hBs:AgreeM (shB 0 B0) B) (hs:Sim ((resV xs).sh 0) v)
 (hval:∀ b o,h0 b=some o→w0.heap[b]? = some o) (hdom:∀ id,mm A id=none→ρb id=none) (hent:∀ id x,mm A id=some x→LiOk x (ρb id)) (hsa:zde K (refs A)=true) (hd:sameShape B0 A=true):At N (Cq w0 h0 (refs A) (ziH ρb A) (zcs ρb)) L M g (zmm P fn h0 w0 ρb v B .ret):=
 At.retO hΓ K 0 hr ho hB hBo hBs hs hval hsa (zm4 hdom hent hd)
end
def look:List (Nat×Nat)→Nat→Nat
 | [],i=>i
 | (a,b)::r,i=>match Nat.beq i a with
  | true=>b
  | false=>look r i
mutual
def AV.ren (π:List (Nat×Nat)):AV→AV
 | .lp id off=>.lp (look π id) off
 | .buf id n=>.buf (look π id) n
 | .ep id n i off=>.ep (look π id) n i off
 | .mp id=>.mp (look π id)
 | .gb id n=>.gb (look π id) n
 | .gp id n i=>.gp (look π id) n i
 | .gr' id i m=>.gr' (look π id) i m
 | .ge id i m j off=>.ge (look π id) i m j off
 | .sb id n a b=>.sb (look π id) n a b
 | .agg cs=>.agg (renL π cs)
 | .tup cs=>.tup (renL π cs)
 | .fn f fs cs=>.fn f (renL π fs) (renL π cs)
 | .ifc t v=>.ifc t (v.ren π)
 | .cnd g v=>.cnd g (v.ren π)
 | .pin hp v=>.pin hp v
 | .ns b v=>.ns b (v.ren π)
 | .any=>.any
 | .one=>.one
 | .nilS=>.nilS
 | .nilFn=>.nilFn
 | .nilPtr=>.nilPtr
 | .nilMap=>.nilMap
 | .nilIfc=>.nilIfc
 | .bool b=>.bool b
 | .int k n=>.int k n
 | .ro sz n e=>.ro sz n e
 | .rp cs=>.rp cs
 | .clo f a b=>.clo f a b
 | .rom z d e n=>.rom z d e n
 | .raw v=>.raw v
 | .nz n=>.nz n
 | .po b cs=>.po b cs
def renL (π:List (Nat×Nat)):List AV→List AV
 | []=>[]
 | c::cs=>c.ren π::renL π cs
end
def Blk.ren (π:List (Nat×Nat)):Blk→Blk
 | .cells cs=>.cells (renL π cs)
 | .buf ty sz n e=>.buf ty sz n e
 | .map z d e n=>.map z d e n
 | .dead=>.dead
 | .grid a b c d e f=>.grid a b c d e f
 | .bufk a b c d e=>.bufk a b c d e
 | .iter a b c=>.iter a b c
 | .gmap ty sz n dom m e out=>.gmap ty sz n dom m e (mapO (fun a=>a.ren π) out)
 | .rows ty sz hd dom m e out=>.rows ty sz hd dom m e (mapO (fun a=>a.ren π) out)
def renB (π:List (Nat×Nat)):List (Nat×Blk)→List (Nat×Blk)
 | []=>[]
 | (i,b)::r=>(look π i,b.ren π)::renB π r
theorem zdj {π:List (Nat×Nat)}:∀ {cs:List AV},(renL π cs).length=cs.length
 | []=>rfl
 | c::cs=>by simp [renL,zdj (cs:=cs)]
theorem zgh {π:List (Nat×Nat)}:∀ {cs:List AV} {i:Nat} {c:AV},(renL π cs)[i]? = some c→∃ c0,cs[i]? = some c0∧c=c0.ren π
 | [],i,c,h=>by simp [renL] at h
 | x::cs,0,c,h=>by simp [renL] at h;exact ⟨x,by simp,h.symm⟩
 | x::cs,i+1,c,h=>by
  simp only [renL,List.getElem?_cons_succ] at h
  obtain ⟨c0,e1,e2⟩:=zgh h
  exact ⟨c0,by simpa using e1,e2⟩
theorem zgL {π:List (Nat×Nat)}:∀ {cs:List AV} {i:Nat} {c:AV},cs[i]? = some c→(renL π cs)[i]? = some (c.ren π)
 | [],i,c,h=>by simp at h
 | x::cs,0,c,h=>by simp at h;subst h;simp [renL]
 | x::cs,i+1,c,h=>by
  simp only [List.getElem?_cons_succ] at h
  simp only [renL,List.getElem?_cons_succ]
  exact zgL h
theorem Rel.ren {h:Hp} {ρ ρ':Rho} {ids:List Nat} {π:List (Nat×Nat)} (hρ:∀ id,id∈ids→ρ' (look π id)=ρ id) {a:AV} {v:Value} (H:Rel h ρ a v) (hc:zay ids a=true):Rel h ρ' (a.ren π) v:=by
 obtain ⟨ρ1,he,H'⟩:∃ ρ1,ρ=ρ1∧Rel h ρ1 a v:=⟨ρ,rfl,H⟩
 clear H
 induction H' with
 | any ρ v=>simp only [AV.ren];exact .any _ _
 | one _ _ h1=>simp only [AV.ren];exact .one _ _ h1
 | nilS=>simp only [AV.ren];exact .nilS _
 | nilFn=>simp only [AV.ren];exact .nilFn _
 | nilPtr=>simp only [AV.ren];exact .nilPtr _
 | nilMap=>simp only [AV.ren];exact .nilMap _
 | nilIfc=>simp only [AV.ren];exact .nilIfc _
 | bool=>simp only [AV.ren];exact .bool _ _
 | int=>simp only [AV.ren];exact .int _ _ _
 | agg ρ1 cs vs hl hc' ih=>
  simp only [AV.ren]
  refine .agg _ _ _ (by rw [zdj];exact hl) fun i c v h1 h2=>?_
  obtain ⟨c0,e1,rfl⟩:=zgh h1
  exact ih i c0 v e1 h2 (za0 (by simpa [zay] using hc) e1) he
 | tup ρ1 cs vs hl hc' ih=>
  simp only [AV.ren]
  refine .tup _ _ _ (by rw [zdj];exact hl) fun i c v h1 h2=>?_
  obtain ⟨c0,e1,rfl⟩:=zgh h1
  exact ih i c0 v e1 h2 (za0 (by simpa [zay] using hc) e1) he
 | ro ρ1 sz n e a cap hnil hcap hsz hs h1 hc' ih=>simp only [AV.ren];exact .ro _ _ _ _ _ _ hnil hcap hsz hs h1 hc'
 | rp ρ1 cs ad hs hc' ih=>simp only [AV.ren];exact .rp _ _ _ hs hc'
 | lp ρ1 id off b hb=>simp only [AV.ren];subst he;exact .lp _ _ _ _ ((hρ id (zaz (by simpa [zay] using hc))).trans hb)
 | buf ρ1 id n n' sz v v' hb hle h1 hq=>simp only [AV.ren];subst he;exact .buf _ _ _ _ _ _ _ ((hρ id (zaz (by simpa [zay] using hc))).trans hb) hle h1 hq
 | ep ρ1 id n i off n' sz v v' hb hle h1 hq=>simp only [AV.ren];subst he;exact .ep _ _ _ _ _ _ _ _ _ ((hρ id (zaz (by simpa [zay] using hc))).trans hb) hle h1 hq
 | fn ρ1 f fs cs vs ws hl hm hc' hd ih1 ih2=>
  simp only [zay] at hc
  split at hc
  · rename_i h0
    simp only [AV.ren]
    refine .fn _ _ _ _ _ _ (by rw [zdj];exact hl) (by rw [zdj];exact hm) (fun i c v h1 h2=>?_) (fun i c v h1 h2=>?_)
    · obtain ⟨c0,e1,rfl⟩:=zgh h1
      exact ih1 i c0 v e1 h2 (za0 h0 e1) he
    · obtain ⟨c0,e1,rfl⟩:=zgh h1
      exact ih2 i c0 v e1 h2 (za0 hc e1) he
  · cases hc
 | clo ρ1 f fs cs v hv ih=>simp only [AV.ren];exact .clo _ _ _ _ _ hv
 | mp ρ1 id li b hb hm=>simp only [AV.ren];subst he;exact .mp _ _ _ _ ((hρ id (zaz (by simpa [zay] using hc))).trans hb) hm
 | romN ρ1 z dom e hdom hz=>simp only [AV.ren];exact .romN _ _ _ _ hdom hz
 | pin ρ1 hp a v hl hv ih=>simp only [AV.ren];exact .pin _ _ _ _ hl hv
 | ns ρ1 b a v hv hn ih=>simp only [AV.ren];exact .ns _ _ _ _ (ih (by simpa [zay] using hc) he) hn
 | rom ρ1 z dom e n r es clock ks hR hks hlen hel hk hborn hbd hdom hz hc' ihz ih=>simp only [AV.ren];exact .rom _ _ _ _ _ _ _ _ _ hR hks hlen hel hk hborn hbd hdom hz hc'
 | ifc ρ1 t a v hv ih=>simp only [AV.ren];exact .ifc _ _ _ _ (ih (by simpa [zay] using hc) he)
 | cnd ρ1 g a v ht hf ih=>simp only [AV.ren];exact .cnd _ _ _ _ (fun hg=>ih hg (by simpa [zay] using hc) he) hf
 | raw=>simp only [AV.ren];exact .raw _ _
 | nz ρ1 n b hb=>simp only [AV.ren];exact .nz _ _ _ hb
 | po ρ1 b cs v ht hf ih=>simp only [AV.ren] at ih ⊢;exact .po _ _ _ _ (fun hg=>ih hg rfl he) hf
 | gb ρ1 id n li v hb hg h0=>simp only [AV.ren];subst he;exact .gb _ _ _ _ _ ((hρ id (zaz (by simpa [zay] using hc))).trans hb) hg h0
 | gp ρ1 id n i li ad hb hg=>simp only [AV.ren];subst he;exact .gp _ _ _ _ _ _ ((hρ id (zaz (by simpa [zay] using hc))).trans hb) hg
 | gr' ρ1 id i m li v hb hg h0=>simp only [AV.ren];subst he;exact .gr' _ _ _ _ _ _ ((hρ id (zaz (by simpa [zay] using hc))).trans hb) hg h0
 | sb ρ1 id n a b n' sz v v' hb hle h0 hq=>simp only [AV.ren];subst he;exact .sb _ _ _ _ _ _ _ _ _ ((hρ id (zaz (by simpa [zay] using hc))).trans hb) hle h0 hq
 | ge ρ1 id i m j off li v hb h0 hg=>simp only [AV.ren];subst he;exact .ge _ _ _ _ _ _ _ _ ((hρ id (zaz (by simpa [zay] using hc))).trans hb) h0 hg
theorem zbJ.ren {h:Hp} {ρ ρ':Rho} {ids:List Nat} {π:List (Nat×Nat)} (hρ:∀ id,id∈ids→ρ' (look π id)=ρ id) {id:Nat} {x:Blk} {w:World} (H:zbJ h ρ id x w) (hid:id∈ids) (ho:zeh ids x=true):zbJ h ρ' (look π id) (x.ren π) w:=by
 cases x with
 | cells cs=>
  obtain ⟨b,vs,ty,q1,q2,q3,q4⟩:=H
  refine ⟨b,vs,ty,(hρ id hid).trans q1,q2,by rw [zdj];exact q3,fun i c v hc hv=>?_⟩
  obtain ⟨c0,e1,rfl⟩:=zgh hc
  exact (q4 i c0 v e1 hv).ren hρ (za0 (by simpa [zeh] using ho) e1)
 | buf ty sz n e=>obtain ⟨v,xs,q1,q2⟩:=H;exact ⟨v,xs,(hρ id hid).trans q1,q2⟩
 | map z dom e n=>obtain ⟨b,es,clock,ks,q1,q2⟩:=H;exact ⟨b,es,clock,ks,(hρ id hid).trans q1,q2⟩
 | iter e cur Pl=>obtain ⟨b,bm,clock,c0,es,seen,left,q1,q2⟩:=H;exact ⟨b,bm,clock,c0,es,seen,left,(hρ id hid).trans q1,q2⟩
 | bufk ty sz n c e=>obtain ⟨v,xs,q1,q2⟩:=H;exact ⟨v,xs,(hρ id hid).trans q1,q2⟩
 | dead=>obtain ⟨n,sz,q1⟩:=H;exact ⟨n,sz,(hρ id hid).trans q1⟩
 | grid tS ty sz n m e=>obtain ⟨v,rows,q1,q2⟩:=H;exact ⟨v,rows,(hρ id hid).trans q1,q2⟩
 | gmap ty sz n dom m e out=>exact H.zkh (fun a=>a.ren π) (hρ id hid) (fun j a v ha hr=>hr.ren hρ (by subst ha;exact ho))
 | rows ty sz hd dom m e out=>exact H.zj4 (fun a=>a.ren π) (hρ id hid) (fun j a v ha hr=>hr.ren hρ (by subst ha;exact ho))
mutual
/-- Back: what holds by the new names holds by the old ones. -/
theorem Rel.unren {h:Hp} {ρ ρ':Rho} {ids:List Nat} {π:List (Nat×Nat)} (hρ:∀ id,id∈ids→ρ id=ρ' (look π id)):∀ (a:AV) {v:Value},Rel h ρ' (a.ren π) v→zay ids a=true→Rel h ρ a v
 | .any,v,H,hc=>.any _ _
 | .one,v,H,hc=>H.zdu rfl
 | .nilS,v,H,hc=>H.zdu rfl
 | .nilFn,v,H,hc=>H.zdu rfl
 | .nilPtr,v,H,hc=>H.zdu rfl
 | .nilMap,v,H,hc=>H.zdu rfl
 | .nilIfc,v,H,hc=>H.zdu rfl
 | .bool b,v,H,hc=>H.zdu rfl
 | .int k n,v,H,hc=>H.zdu rfl
 | .ro sz n e,v,H,hc=>H.zdu rfl
 | .rp cs,v,H,hc=>H.zdu rfl
 | .clo f a b,v,H,hc=>H.zdu rfl
 | .rom z d e n,v,H,hc=>H.zdu rfl
 | .raw u,v,H,hc=>H.zdu rfl
 | .pin hp u,v,H,hc=>H.zdu rfl
 | .nz n,v,H,hc=>H.zdu rfl
 | .po b cs,v,H,hc=>H.zdu rfl
 | .lp id off,v,H,hc=>by
  simp only [AV.ren] at H
  cases H with
  | lp _ _ _ b hb=>exact .lp _ _ _ _ ((hρ id (zaz (by simpa [zay] using hc))).trans hb)
 | .buf id n,v,H,hc=>by
  simp only [AV.ren] at H
  cases H with
  | buf _ _ _ n' sz _ v' hb hle h1 hq=>exact .buf _ _ _ _ _ _ _ ((hρ id (zaz (by simpa [zay] using hc))).trans hb) hle h1 hq
 | .ep id n i off,v,H,hc=>by
  simp only [AV.ren] at H
  cases H with
  | ep _ _ _ _ _ n' sz _ v' hb hle h1 hq=>exact .ep _ _ _ _ _ _ _ _ _ ((hρ id (zaz (by simpa [zay] using hc))).trans hb) hle h1 hq
 | .mp id,v,H,hc=>by
  simp only [AV.ren] at H
  cases H with
  | mp _ _ li b hb hm=>exact .mp _ _ _ _ ((hρ id (zaz (by simpa [zay] using hc))).trans hb) hm
 | .ns b v,u,H,hc=>by
  simp only [AV.ren] at H
  cases H with
  | ns _ _ _ _ hv hn=>exact .ns _ _ _ _ (Rel.unren hρ v hv (by simpa [zay] using hc)) hn
 | .gb id n,v,H,hc=>by
  simp only [AV.ren] at H
  cases H with
  | gb _ _ _ li _ hb hg h0=>exact .gb _ _ _ _ _ ((hρ id (zaz (by simpa [zay] using hc))).trans hb) hg h0
 | .gp id n i,v,H,hc=>by
  simp only [AV.ren] at H
  cases H with
  | gp _ _ _ _ li ad hb hg=>exact .gp _ _ _ _ _ _ ((hρ id (zaz (by simpa [zay] using hc))).trans hb) hg
 | .gr' id i m,v,H,hc=>by
  simp only [AV.ren] at H
  cases H with
  | gr' _ _ _ _ li _ hb hg h0=>exact .gr' _ _ _ _ _ _ ((hρ id (zaz (by simpa [zay] using hc))).trans hb) hg h0
 | .ge id i m j off,v,H,hc=>by
  simp only [AV.ren] at H
  cases H with
  | ge _ _ _ _ _ _ li _ hb h0 hg=>exact .ge _ _ _ _ _ _ _ _ ((hρ id (zaz (by simpa [zay] using hc))).trans hb) h0 hg
 | .sb id n a b,v,H,hc=>by
  simp only [AV.ren] at H
  cases H with
  | sb _ _ _ _ _ n' sz _ v' hb hle h0 hq=>exact .sb _ _ _ _ _ _ _ _ _ ((hρ id (zaz (by simpa [zay] using hc))).trans hb) hle h0 hq
 | .agg cs,v,H,hc=>by
  simp only [AV.ren] at H
  cases H with
  | agg _ _ vs hl hr=>exact .agg _ _ _ (by rw [hl,zdj]) (fun i c v h1 h2=>Rel.zix hρ cs (by simpa [zay] using hc) i c v h1 (hr i _ v (zgL h1) h2))
 | .tup cs,v,H,hc=>by
  simp only [AV.ren] at H
  cases H with
  | tup _ _ vs hl hr=>exact .tup _ _ _ (by rw [hl,zdj]) (fun i c v h1 h2=>Rel.zix hρ cs (by simpa [zay] using hc) i c v h1 (hr i _ v (zgL h1) h2))
 | .fn f fs cs,v,H,hc=>by
  simp only [AV.ren] at H
  simp only [zay] at hc
  split at hc
  · rename_i h0
    cases H with
    | fn _ _ _ _ vs ws hl hm h1 h2=>exact .fn _ _ _ _ _ _ (by rw [hl,zdj]) (by rw [hm,zdj]) (fun i c v q1 q2=>Rel.zix hρ fs h0 i c v q1 (h1 i _ v (zgL q1) q2)) (fun i c v q1 q2=>Rel.zix hρ cs hc i c v q1 (h2 i _ v (zgL q1) q2))
  · cases hc
 | .ifc t a,v,H,hc=>by
  simp only [AV.ren] at H
  cases H with
  | ifc _ _ _ u hv=>exact .ifc _ _ _ _ (Rel.unren hρ a hv (by simpa [zay] using hc))
 | .cnd g a,v,H,hc=>by
  simp only [AV.ren] at H
  cases H with
  | cnd _ _ _ _ ht hf=>exact .cnd _ _ _ _ (fun hg=>Rel.unren hρ a (ht hg) (by simpa [zay] using hc)) hf
theorem Rel.zix {h:Hp} {ρ ρ':Rho} {ids:List Nat} {π:List (Nat×Nat)} (hρ:∀ id,id∈ids→ρ id=ρ' (look π id)):∀ (cs:List AV),zde ids cs=true→∀ (i:Nat) (c:AV) (v:Value),cs[i]? = some c→Rel h ρ' (c.ren π) v→Rel h ρ c v
 | [],_,i,c,v,h1,_=>by simp at h1
 | x::cs,hc,0,c,v,h1,H=>by
  simp only [List.getElem?_cons_zero,Option.some.injEq] at h1
  simp only [zde] at hc
  split at hc
  · rename_i h0
    rw [← h1] at H ⊢
    exact Rel.unren hρ x H h0
  · cases hc
 | x::cs,hc,i+1,c,v,h1,H=>by
  simp only [List.getElem?_cons_succ] at h1
  simp only [zde] at hc
  split at hc
  · exact Rel.zix hρ cs hc i c v h1 H
  · cases hc
end
theorem zlT {π:List (Nat×Nat)} {ids:List Nat} (hinj:∀ i j,i∈ids→j∈ids→look π i=look π j→i=j):∀ {B:List (Nat×Blk)},(∀ i,i∈zaC B→i∈ids)→∀ i,i∈ids→mm (renB π B) (look π i)=(mm B i).map (·.ren π)
 | [],_,i,_=>rfl
 | (j,b)::r,h,i,hi=>by
  simp only [renB,mm]
  by_cases e:i=j
  · subst e;simp [upd]
  · rw [zae _ _ e,zae _ _ (fun q=>e (hinj i j hi (h j (List.mem_cons_self ..)) q))]
    exact zlT hinj (fun i hi=>h i (List.mem_cons_of_mem _ hi)) i hi
theorem ziT {π:List (Nat×Nat)}:∀ {B:List (Nat×Blk)},zaC (renB π B)=(zaC B).map (look π)
 | []=>rfl
 | (j,b)::r=>by simp [renB,zaC,ziT (B:=r)]
def znn (π:List (Nat×Nat)):List Nat→Bool
 | []=>true
 | i::r=>match zbc (r.map (look π)) (look π i) with
  | true=>match zbc r i with
   | true=>znn π r
   | false=>false
  | false=>znn π r
theorem zgn {π:List (Nat×Nat)}:∀ {l:List Nat},znn π l=true→∀ i j,i∈l→j∈l→look π i=look π j→i=j
 | [],_,i,j,h,_,_=>by cases h
 | x::l,hi,i,j,h1,h2,e=>by
  simp only [znn] at hi
  have key:znn π l=true∧∀ k,k∈l→look π x=look π k→x∈l:=by
   split at hi
   · split at hi
     · rename_i h3;exact ⟨hi,fun _ _ _=>zaz h3⟩
     · cases hi
   · rename_i h3
     refine ⟨hi,fun k hk e=>?_⟩
     rw [zdN (by rw [e];exact List.mem_map_of_mem hk)] at h3;cases h3
  obtain ⟨k1,k2⟩:=key
  rcases List.mem_cons.1 h1 with rfl|h3 <;> rcases List.mem_cons.1 h2 with rfl|h4
  · rfl
  · exact zgn k1 i j (k2 j h4 e) h4 e
  · exact zgn k1 i j h3 (k2 i h3 e.symm) e
  · exact zgn k1 i j h3 h4 e
theorem CtrO.ren {P:Program} {f:FuncId} {args:List AV} {A B:List (Nat×Blk)} {v:AV} (H:CtrO P f args A v B) (π:List (Nat×Nat)) (ha:zde (zaC A) args=true:=by rfl) (hA:zc5 (zaC A) A=true:=by rfl) (hv:zay (zaC B) v=true:=by rfl) (hB:zc5 (zaC B) B=true:=by rfl) (hi:znn π (zaC A++zaC B)=true:=by rfl) :
 CtrO P f (renL π args) (renB π A) (v.ren π) (renB π B):=by
 have hinj:=zgn hi
 have iA:∀ i j,i∈zaC A→j∈zaC A→look π i=look π j→i=j:=fun i j h1 h2=>hinj i j (List.mem_append_left _ h1) (List.mem_append_left _ h2)
 have iB:∀ i j,i∈zaC B→j∈zaC B→look π i=look π j→i=j:=fun i j h1 h2=>hinj i j (List.mem_append_right _ h1) (List.mem_append_right _ h2)
 refine ⟨H.1,fun h w ρ vs hR hp O=>?_⟩
 classical
 let ρ2:Rho:=fun j=>if j∈zaC A then ρ (look π j) else none
 have h2:∀ j,j∈zaC A→ρ2 j=ρ (look π j):=fun j hj=>if_pos hj
 have hinv:∀ j li,ρ2 j=some li→j∈zaC A∧ρ (look π j)=some li:=fun j li hj=>by
  have:(if j∈zaC A then ρ (look π j) else none)=some li:=hj
  split at this
  · exact ⟨by assumption,this⟩
  · cases this
 have hback:∀ i li,ρ i=some li→∃ j,j∈zaC A∧i=look π j:=fun i li hi=>by
  have:i∈zaC (renB π A):=Classical.byContradiction fun hn=>by rw [O.dom i (zlU hn)] at hi;cases hi
  rw [ziT] at this
  obtain ⟨j,q1,q2⟩:=List.mem_map.1 this
  exact ⟨j,q1,q2.symm⟩
 have hset:∀ b,zcs ρ2 b↔zcs ρ b:=fun b=>by
  constructor
  · rintro ⟨j,li,q1,q2⟩
    exact ⟨_,li,(hinv j li q1).2,q2⟩
  · rintro ⟨i,li,q1,q2⟩
    obtain ⟨j,q3,rfl⟩:=hback i li q1
    exact ⟨j,li,(h2 j q3).trans q1,q2⟩
 have hmA:∀ j,j∈zaC A→mm (renB π A) (look π j)=(mm A j).map (·.ren π):=zlT iA (fun _ h=>h)
 have hR2:RelL h ρ2 args vs:=⟨by rw [hR.1,zdj],fun i c v hc hv=>Rel.zix h2 args ha i c v hc (hR.2 i _ v (zgL hc) hv)⟩
 have hO2:Ownd h ρ2 A w:=by
  refine ⟨fun j y hj=>?_,fun j hj=>?_,fun j li b q3 q4=>O.own _ li b (hinv j li q3).2 q4,fun j j' li li' b q3 q3' q4 q4'=>?_⟩
  · have hjA:j∈zaC A:=zdU.2 (by rw [hj];rfl)
    have:=O.blk (look π j) (y.ren π) (by rw [hmA j hjA,hj];rfl)
    have ho:=zfH hA j y hj
    cases y with
    | cells cs=>
     obtain ⟨b,us,ty,q1,q2,q3,q4⟩:=this
     exact ⟨b,us,ty,(h2 j hjA).trans q1,q2,by rw [q3,zdj],fun i c v hc hv=>Rel.zix h2 cs (by simpa [zeh] using ho) i c v hc (q4 i _ v (zgL hc) hv)⟩
    | buf ty sz n e=>obtain ⟨v,xs,q1,q2⟩:=this;exact ⟨v,xs,(h2 j hjA).trans q1,q2⟩
    | map z dom e n=>obtain ⟨b,es,clock,ks,q1,q2⟩:=this;exact ⟨b,es,clock,ks,(h2 j hjA).trans q1,q2⟩
    | iter e cur Pl=>obtain ⟨b,bm,clock,c0,es,seen,left,q1,q2⟩:=this;exact ⟨b,bm,clock,c0,es,seen,left,(h2 j hjA).trans q1,q2⟩
    | bufk ty sz n c e=>obtain ⟨v,xs,q1,q2⟩:=this;exact ⟨v,xs,(h2 j hjA).trans q1,q2⟩
    | dead=>obtain ⟨n,sz,q1⟩:=this;exact ⟨n,sz,(h2 j hjA).trans q1⟩
    | grid tS ty sz n m e=>obtain ⟨v,rows,q1,q2⟩:=this;exact ⟨v,rows,(h2 j hjA).trans q1,q2⟩
    | gmap ty sz n dom m e out=>
     obtain ⟨b,es,clock,ks,R,g1,g2,g3,g4,g5,g6,g7,g8,g9,g10,g11,g12,g13⟩:=this
     refine ⟨b,es,clock,ks,R,(h2 j hjA).trans g1,g2,g3,g4,g5,g6,g7,g8,g9,fun i k x hk hx=>⟨fun a ha=>?_,fun ha=>(g10 i k x hk hx).2 (fun a e=>?_)⟩,fun k a ha=>?_,g12,g13⟩
     · exact Rel.unren h2 a ((g10 i k x hk hx).1 _ (by rw [ha];rfl)) (by subst ha;exact ho)
     · obtain ⟨a0,e1,_⟩:=zfL e;exact ha a0 e1
     · exact ⟨(g11 k _ (by rw [ha];rfl)).1,fun hd=>Rel.unren h2 a ((g11 k _ (by rw [ha];rfl)).2 hd) (by subst ha;exact ho)⟩
    | rows ty sz hd dom m e out=>
     obtain ⟨R,g1,g2,g3,g4⟩:=this
     refine ⟨R,(h2 j hjA).trans g1,fun k hk=>g2 k (fun a e=>?_),fun k a ha=>⟨(g3 k _ (by rw [ha];rfl)).1,Rel.unren h2 a (g3 k _ (by rw [ha];rfl)).2 (by subst ha;exact ho)⟩,g4⟩
     obtain ⟨a0,e1,_⟩:=zfL e;exact hk a0 e1
  · cases hq:ρ2 j with
    | none=>rfl
    | some li=>
     have:=zdU.1 (hinv j li hq).1
     rw [hj] at this;cases this
  · exact iA j j' (hinv j li q3).1 (hinv j' li' q3').1 (O.inj _ _ li li' b (hinv j li q3).2 (hinv j' li' q3').2 q4 q4')
 refine (H.2 h w ρ2 _ hR2 hp hO2).mono (fun en w' he=>?_)
 cases en with
 | panicked ch=>exact he.elim
 | outgrown=>exact he.elim
 | returned x=>
 obtain ⟨h',ρ3,p1,p2,p3,p4,p5,p6,p7,p8,p9,p10,p11⟩:=he
 let ρ':Rho:=fun i=>if hx:∃ j,j∈zaC B∧look π j=i then ρ3 (Classical.choose hx) else none
 have hin:∀ j,j∈zaC B→ρ' (look π j)=ρ3 j:=fun j hj=>by
  have hx:∃ k,k∈zaC B∧look π k=look π j:=⟨j,hj,rfl⟩
  have e1:ρ' (look π j)=ρ3 (Classical.choose hx):=dif_pos hx
  obtain ⟨q1,q2⟩:=Classical.choose_spec hx
  rw [e1,iB _ _ q1 hj q2]
 have hout:∀ i li,ρ' i=some li→∃ j,j∈zaC B∧i=look π j∧ρ3 j=some li:=fun i li hi=>by
  by_cases hx:∃ j,j∈zaC B∧look π j=i
  · obtain ⟨j,q1,rfl⟩:=hx
    exact ⟨j,q1,rfl,(hin j q1).symm.trans hi⟩
  · have:ρ' i=none:=dif_neg hx
    rw [this] at hi;cases hi
 have hmB:∀ j,j∈zaC B→mm (renB π B) (look π j)=(mm B j).map (·.ren π):=zlT iB (fun _ h=>h)
 refine ⟨h',ρ',p1,p2,p3,p4,fun kk hk hn=>p5 kk hk (fun ho=>hn ((hset kk).1 ho)),p6,p7,p8.ren (ids:=zaC B) hin hv,⟨fun i y hy=>?_,fun i hy=>?_,fun i li b q1 q2=>?_,fun i i' li li' b q1 q1' q2 q2'=>?_⟩,fun i li b q1 q2=>?_,fun i li li' q1 q2=>?_⟩
 · have hi:i∈zaC (renB π B):=zdU.2 (by rw [hy];rfl)
   rw [ziT] at hi
   obtain ⟨j,q1,rfl⟩:=List.mem_map.1 hi
   rw [hmB j q1] at hy
   obtain ⟨y0,q2,rfl⟩:=Option.map_eq_some_iff.1 hy
   exact (p9.blk j y0 q2).ren (ids:=zaC B) hin q1 (zfH hB j y0 q2)
 · cases hq:ρ' i with
   | none=>rfl
   | some li=>
    obtain ⟨j,q1,rfl,q2⟩:=hout i li hq
    rw [hmB j q1] at hy
    have:=zdU.1 q1
    cases hz:mm B j with
    | none=>rw [hz] at this;cases this
    | some z=>rw [hz] at hy;cases hy
 · obtain ⟨j,q3,rfl,q4⟩:=hout i li q1
   exact p9.own j li b q4 q2
 · obtain ⟨j,q3,rfl,q4⟩:=hout i li q1
   obtain ⟨j',q3',rfl,q4'⟩:=hout i' li' q1'
   rw [p9.inj j j' li li' b q4 q4' q2 q2']
 · obtain ⟨j,q3,rfl,q4⟩:=hout i li q1
   exact (p10 j li b q4 q2).imp (fun h=>(hset b).1 h) id
 · obtain ⟨j,q3,rfl,q4⟩:=hout i li' q2
   obtain ⟨j2,q5,q6⟩:=hback _ li q1
   have:j=j2:=hinj j j2 (List.mem_append_right _ q3) (List.mem_append_left _ q5) q6
   subst this
   exact p11 j li li' ((h2 j q5).trans q1) q4
theorem CtrO.sim {P:Program} {f:FuncId} {args args':List AV} {A A' B:List (Nat×Blk)} {v:AV} (H:CtrO P f args' A' v B) (hs:SimL args args') (hM:AgreeM A A'):CtrO P f args A v B:=by
 refine ⟨H.1,fun h w ρ vs hR hp O=>H.2 h w ρ vs ⟨by rw [hR.1,hs.spec.1],fun i c u hc hu=>?_⟩ hp ⟨fun id y hy=>?_,fun id hy=>O.dom id (((hM.spec id).1).1 hy),O.own,O.inj⟩⟩
 · obtain ⟨l1,l2⟩:=hs.spec
   have hi:i<args.length:=by rw [l1];exact (List.getElem?_eq_some_iff.1 hc).1
   exact l2 i _ c (List.getElem?_eq_getElem hi) hc h ρ u (hR.2 i _ u (List.getElem?_eq_getElem hi) hu)
 · obtain ⟨x,q1,q2⟩:=(hM.spec id).2 y hy
   exact q2 h ρ id w (O.blk id x q1)
theorem BSim.cells {xs ys:List AV} (hs:SimL xs ys):BSim (.cells xs) (.cells ys):=by
 intro h ρ id w H
 obtain ⟨b,vs,ty,q1,q2,q3,q4⟩:=H
 obtain ⟨l1,l2⟩:=hs.spec
 refine ⟨b,vs,ty,q1,q2,by rw [q3,l1],fun i c v hc hv=>?_⟩
 have hi:i<xs.length:=by rw [l1];exact (List.getElem?_eq_some_iff.1 hc).1
 exact l2 i _ c (List.getElem?_eq_getElem hi) hc h ρ v (q4 i _ v (List.getElem?_eq_getElem hi) hv)
end Go.Av
end
/- Owned results of several blocks: names changed at the return; empty slices within temporaries. -/
section
set_option linter.all false
namespace Go.Av
section
variable {N:Nat} {C:Ctx} {L:List (Nat×AV)} {M:List (Nat×Blk)} {g:Nat}
end
end Go.Av
end
/- An owned slice is only read from now on, wherever it is named. -/
section
set_option linter.all false
namespace Go.Av
mutual
/-- A value in which a name is read as what it stands for; what must hold for it. -/
def fz (id n':Nat) (r:AV) (K:List Nat):AV→Option (AV×List Prop)
 | .buf i n=>match Nat.beq i id with
  | true=>some (r,[n=n'])
  | false=>match zbc K i with
   | true=>some (.buf i n,[])
   | false=>none
 | .agg cs=>match fzL id n' r K cs with
  | some (cs',ps)=>some (.agg cs',ps)
  | none=>none
 | .tup cs=>match fzL id n' r K cs with
  | some (cs',ps)=>some (.tup cs',ps)
  | none=>none
 | v=>match zay K v with
  | true=>some (v,[])
  | false=>none
def fzL (id n':Nat) (r:AV) (K:List Nat):List AV→Option (List AV×List Prop)
 | []=>some ([],[])
 | c::cs=>match fz id n' r K c with
  | some (c',ps)=>match fzL id n' r K cs with
   | some (cs',qs)=>some (c'::cs',appP ps qs)
   | none=>none
  | none=>none
end
theorem zpq {id n':Nat} {r:AV} {K:List Nat} {x y:AV} {ps:List Prop} (h:fz id n' r K x=some (y,ps)) (h1:∀ i n,x ≠ .buf i n) (h2:∀ cs,x ≠ .agg cs) (h3:∀ cs,x ≠ .tup cs):zay K x=true∧y=x:=by
 cases x <;> first|exact absurd rfl (h1 _ _)|exact absurd rfl (h2 _)|exact absurd rfl (h3 _)|(simp only [fz] at h;split at h <;> cases h;exact ⟨by assumption,rfl⟩)
theorem zkk {id n':Nat} {r:AV} {K:List Nat}:∀ {cs cs':List AV} {ps:List Prop},fzL id n' r K cs=some (cs',ps)→cs'.length=cs.length ∧
 ∀ (i:Nat) (c':AV),cs'[i]? = some c'→∃ c qs,cs[i]? = some c∧fz id n' r K c=some (c',qs)∧∀ q,q∈qs→q∈ps
 | [],cs',ps,h=>by
  simp only [fzL] at h;cases h
  exact ⟨rfl,fun i c' hc=>(by simp at hc)⟩
 | c::cs,cs',ps,h=>by
  simp only [fzL] at h
  split at h
  · rename_i d qs hd
    split at h
    · rename_i ds rs hds
      cases h
      obtain ⟨h1,h2⟩:=zkk hds
      refine ⟨by simp [h1],fun i c' hc=>?_⟩
      cases i with
      | zero=>simp at hc;subst hc;exact ⟨c,qs,rfl,hd,fun q hq=>zdI.2 (.inl hq)⟩
      | succ i=>
       obtain ⟨c0,q0,e1,e2,e3⟩:=h2 i c' (by simpa using hc)
       exact ⟨c0,q0,by simpa using e1,e2,fun q hq=>zdI.2 (.inr (e3 q hq))⟩
    · cases h
  · cases h
theorem Rel.fz {h h':Hp} {ρ ρ':Rho} {id n' sz:Nat} {v0:Value} {r:AV} {K:List Nat} (hle:Le h h') (hρ:∀ i,i∈K→ρ' i=ρ i) (hid:ρ id=some (.sl n' sz v0)) (hr:Rel h' ρ' r v0) {x:AV} {v:Value} (H:Rel h ρ x v) :
 ∀ {y:AV} {ps:List Prop},Go.Av.fz id n' r K x=some (y,ps)→(∀ q,q∈ps→q)→Rel h' ρ' y v:=by
 obtain ⟨h9,hh,H'⟩:∃ h9,h=h9∧Rel h9 ρ x v:=⟨h,rfl,H⟩
 clear H
 induction H' with
 | buf ρ i n n2 sz2 v v' hb hl h1 he=>
  intro y ps hy hp
  simp only [Go.Av.fz] at hy
  split at hy
  · rename_i hi
    cases hy
    have:=Nat.eq_of_beq_eq_true hi
    subst this
    have hn:n=n':=hp _ (List.mem_cons_self ..)
    rw [hid] at hb;cases hb
    rw [he hn];exact hr
  · split at hy
    · rename_i hk
      cases hy
      exact .buf _ _ _ _ _ _ _ ((hρ i (zaz hk)).trans hb) hl h1 he
    · cases hy
 | agg ρ cs vs hl hc ih=>
  intro y ps hy hp
  simp only [Go.Av.fz] at hy
  split at hy
  · rename_i cs' qs hcs
    cases hy
    obtain ⟨e1,e2⟩:=zkk hcs
    refine .agg _ _ _ (by rw [hl,e1]) fun i c v h1 h2=>?_
    obtain ⟨c0,q0,k1,k2,k3⟩:=e2 i c h1
    exact ih i c0 v k1 h2 hρ hid hh k2 (fun q hq=>hp q (k3 q hq))
  · cases hy
 | tup ρ cs vs hl hc ih=>
  intro y ps hy hp
  simp only [Go.Av.fz] at hy
  split at hy
  · rename_i cs' qs hcs
    cases hy
    obtain ⟨e1,e2⟩:=zkk hcs
    refine .tup _ _ _ (by rw [hl,e1]) fun i c v h1 h2=>?_
    obtain ⟨c0,q0,k1,k2,k3⟩:=e2 i c h1
    exact ih i c0 v k1 h2 hρ hid hh k2 (fun q hq=>hp q (k3 q hq))
  · cases hy
 | _=>
  intro y ps hy hp
  obtain ⟨ho,rfl⟩:=zpq hy (fun _ _ e=>by cases e) (fun _ e=>by cases e) (fun _ e=>by cases e)
  subst hh
  refine Rel.forget hρ (Rel.heap ?_ hle) ho
  first|(constructor <;> assumption)|(constructor;done)
def fzS (id n':Nat) (r:AV) (K:List Nat) (L:List (Nat×AV)):List Nat→Option (List (Nat×AV)×List Prop)
 | []=>some ([],[])
 | t::ts=>match zgv L t with
  | some x=>match fz id n' r K x with
   | some (y,ps)=>match fzS id n' r K L ts with
    | some (L',qs)=>some ((t,y)::L',appP ps qs)
    | none=>none
   | none=>none
  | none=>none
def fzB (id n':Nat) (r:AV) (K:List Nat):Blk→Option (Blk×List Prop)
 | .cells cs=>match fzL id n' r K cs with
  | some (cs',ps)=>some (.cells cs',ps)
  | none=>none
 | b=>match zeh K b with
  | true=>some (b,[])
  | false=>none
def fzM (id n':Nat) (r:AV) (K:List Nat) (M:List (Nat×Blk)):List Nat→Option (List (Nat×Blk)×List Prop)
 | []=>some ([],[])
 | t::ts=>match mm M t with
  | some x=>match fzB id n' r K x with
   | some (y,ps)=>match fzM id n' r K M ts with
    | some (M',qs)=>some ((t,y)::M',appP ps qs)
    | none=>none
   | none=>none
  | none=>none
theorem zmR {id n':Nat} {r:AV} {K:List Nat} {L:List (Nat×AV)}:∀ {ts:List Nat} {L':List (Nat×AV)} {ps:List Prop},fzS id n' r K L ts=some (L',ps) →
 ∀ t,fr L' t = .any∨∃ qs,fz id n' r K (fr L t)=some (fr L' t,qs)∧∀ q,q∈qs→q∈ps
 | [],L',ps,h,t=>by simp only [fzS] at h;cases h;exact .inl rfl
 | u::ts,L',ps,h,t=>by
  simp only [fzS] at h
  split at h
  · rename_i x hx
    split at h
    · rename_i y qs hy
      split at h
      · rename_i L2 rs h2
        cases h
        simp only [fr,put]
        split
        · rename_i hb
          have:=Nat.eq_of_beq_eq_true hb
          subst this
          rw [zhh hx]
          exact .inr ⟨qs,hy,fun q hq=>zdI.2 (.inl hq)⟩
        · rcases zmR h2 t with e|⟨q0,e1,e2⟩
          · exact .inl e
          · exact .inr ⟨q0,e1,fun q hq=>zdI.2 (.inr (e2 q hq))⟩
      · cases h
    · cases h
  · cases h
theorem zmS {id n':Nat} {r:AV} {K:List Nat} {M:List (Nat×Blk)}:∀ {ts:List Nat} {M':List (Nat×Blk)} {ps:List Prop},fzM id n' r K M ts=some (M',ps) →
 (∀ t,t∈ts→(mm M' t).isSome=true)∧∀ t y,mm M' t=some y→t∈ts∧∃ x qs,mm M t=some x∧fzB id n' r K x=some (y,qs)∧∀ q,q∈qs→q∈ps
 | [],M',ps,h=>by simp only [fzM] at h;cases h;exact ⟨fun t ht=>(by cases ht),fun t y hy=>(by cases hy)⟩
 | u::ts,M',ps,h=>by
  simp only [fzM] at h
  split at h
  · rename_i x hx
    split at h
    · rename_i y qs hy
      split at h
      · rename_i L2 rs h2
        cases h
        obtain ⟨k1,k2⟩:=zmS h2
        refine ⟨fun t ht=>?_,fun t z hz=>?_⟩
        · simp only [mm]
          by_cases e:t=u
          · subst e;rw [zah];rfl
          · rw [zae _ _ e]
            exact k1 t ((List.mem_cons.1 ht).resolve_left e)
        · simp only [mm] at hz
          by_cases e:t=u
          · subst e;rw [zah] at hz;cases hz
            exact ⟨List.mem_cons_self ..,x,qs,hx,hy,fun q hq=>zdI.2 (.inl hq)⟩
          · rw [zae _ _ e] at hz
            obtain ⟨e0,x2,q2,e1,e2,e3⟩:=k2 t z hz
            exact ⟨List.mem_cons_of_mem _ e0,x2,q2,e1,e2,fun q hq=>zdI.2 (.inr (e3 q hq))⟩
      · cases h
    · cases h
  · cases h
section
variable {N:Nat} {C:Ctx} {L:List (Nat×AV)} {M:List (Nat×Blk)} {g:Nat} {R:Act→World→Prop}
theorem At.zl3 (id:Nat) {ty sz n':Nat} {e:Nat→List AV} {K ts:List Nat} {L':List (Nat×AV)} {M':List (Nat×Blk)} {ps qs:List Prop} (hM:mm M id=some (.buf ty sz n' e)) (hK:zbc K id=false)
 (hL:fzS id n' (.ro sz n' e) K L ts=some (L',ps)) (hMK:fzM id n' (.ro sz n' e) K M K=some (M',qs)) (hps:AllP ps) (hqs:AllP qs)
 (hbor:∀ b,¬ C.bor b) (Kk:At N C L' M' g R) (hs:zde K C.savA=true:=by rfl):At N C L M g R:=by
 intro h ρ a w I
 have hps:=hps.mem
 have hqs:=hqs.mem
 obtain ⟨v,us,k1,k2,k3,k5,k4⟩:=I.blk id _ hM
 obtain ⟨m1,m2⟩:=zmS hMK
 have hidK:id ∉ K:=fun hk=>by rw [zer hk] at hK;cases hK
 classical
 let h':Hp:=fun b=>if v.ownBlock=some b then w.heap[b]? else h b
 let ρ':Rho:=fun i=>if i∈K then ρ i else none
 have hρ:∀ i,i∈K→ρ' i=ρ i:=fun i hi=>if_pos hi
 have hρ':∀ i li,ρ' i=some li→i∈K∧ρ i=some li:=fun i li hi=>by
  have:(if i∈K then ρ i else none)=some li:=hi
  split at this
  · exact ⟨by assumption,this⟩
  · cases this
 have hin:∀ b,v.ownBlock=some b→h' b=w.heap[b]? := fun b hb=>if_pos hb
 have hle:∀ b o,h b=some o→h' b=some o:=by
  intro b o hb
  show (if v.ownBlock=some b then w.heap[b]? else h b)=some o
  split
  · exact I.hp b o hb
  · exact hb
 have hge:∀ b,v.ownBlock=some b→C.w0.heap.size≤b:=fun b hb=>(I.own id _ b k1 hb).2.2.resolve_right (hbor b)
 have hnew:∀ b o,h' b=some o→(v.ownBlock=some b∧w.heap[b]? = some o)∨h b=some o:=by
  intro b o hb
  have:(if v.ownBlock=some b then w.heap[b]? else h b)=some o:=hb
  split at this
  · exact .inl ⟨by assumption,this⟩
  · exact .inr this
 have hr:Rel h' ρ' (.ro sz n' e) v:=(zdX k2 (fun b hb=>hin b hb) k3 k5 (fun i j c x a1 a2 a3=>(k4 i j c x a1 a2 a3).heap (Le.of hle))).closed
 refine Kk h' ρ' a w { I with slot:=fun t=>?_,sav:=⟨I.sav.1,fun i c x h1 h2=>((I.sav.2 i c x h1 h2).heap (Le.of hle)).forget hρ (za0 hs h1)⟩,hp:=fun b o hb=>?_,blk:=fun i y hy=>?_,dom:=fun i hi=>?_,own:=fun i li b q1 q2=>?_,inj:=fun i i' li li' b q1 q1' q2 q2'=>I.inj i i' li li' b (hρ' _ _ q1).2 (hρ' _ _ q1').2 q2 q2',ext:=fun b o hb=>hle b o (I.ext b o hb),old:=fun b o hb hlt=>?_,gst:=?_,dfr:=?_ }
 · rcases zmR hL t with e1|⟨q0,e1,e2⟩
   · rw [e1];exact .any _ _
   · exact Rel.fz (Le.of hle) hρ k1 hr (I.slot t) e1 (fun q hq=>hps q (e2 q hq))
 · rcases hnew b o hb with q|q
   · exact q.2
   · exact I.hp b o q
 · obtain ⟨hik,x,q0,e1,e2,e3⟩:=m2 i y hy
   have H:=I.blk i x e1
   have other:∀ z,zeh K z=true→zbJ h ρ i z w→zbJ h' ρ' i z w:=fun z ho Hz=>((Hz.keep (Le.of hle) rfl (zcM _) (fun _ _ _ _=>rfl)).forget hρ hik ho)
   cases x with
   | cells cs=>
    simp only [fzB] at e2
    split at e2
    · rename_i cs' q2 hcs
      cases e2
      obtain ⟨b,vs,ty',z1,z2,z3,z4⟩:=H
      obtain ⟨l1,l2⟩:=zkk hcs
      refine ⟨b,vs,ty',(hρ i hik).trans z1,z2,by rw [z3,l1],fun j c u hc hu=>?_⟩
      obtain ⟨c0,q3,y1,y2,y3⟩:=l2 j c hc
      exact Rel.fz (Le.of hle) hρ k1 hr (z4 j c0 u y1 hu) y2 (fun q hq=>hqs q (e3 q (y3 q hq)))
    · cases e2
   | _=>
    simp only [fzB] at e2
    split at e2
    · rename_i ho
      cases e2
      exact other _ ho H
    · cases e2
 · cases hq:ρ' i with
   | none=>rfl
   | some li=>
    have:=m1 i (hρ' i li hq).1
    rw [hi] at this;cases this
 · obtain ⟨q3,q4⟩:=hρ' i li q1
   obtain ⟨z1,z2,z3⟩:=I.own i li b q4 q2
   refine ⟨?_,z2,z3⟩
   show (if v.ownBlock=some b then w.heap[b]? else h b)=none
   rw [if_neg (fun hv:v.ownBlock=some b=>hidK ((I.inj i id li _ b q4 k1 q2 hv)▸q3))]
   exact z1
 · rcases hnew b o hb with q|q
   · exact absurd hlt (Nat.not_lt.2 (hge b q.1))
   · exact I.old b o q hlt
 · obtain ⟨X,x1,x2,x3⟩:=I.gst
   refine ⟨X,fun b ⟨i,li,q1,q2⟩=>x1 b ⟨i,li,(hρ' i li q1).2,q2⟩,fun b o hb=>?_,x3⟩
   rcases hnew b o hb with q|q
   · exact .inr (x1 b ⟨id,_,k1,q.1⟩)
   · exact x2 b o q
 · obtain ⟨Ds,hd1,hd2,hd3⟩:=I.dfr
   exact ⟨Ds,hd1,hd2,fun D hD=>⟨hle _ _ (hd3 D hD).1,(hd3 D hD).2⟩⟩
end
end Go.Av
end
/- Rows that grow, at loops: no rows as rows that are owned; what rows hold. -/
section
set_option linter.all false
namespace Go.Av
open Go.Sp
section
variable {N:Nat} {C:Ctx} {L:List (Nat×AV)} {M:List (Nat×Blk)} {g:Nat}
end
end Go.Av
end
/- slices.Insert of one element into an owned row, out of walks of its body (which a claim prints for its program). -/
section
set_option linter.all false
namespace Go.Av
open Go Go.Lib
theorem zdS {P:Program} (w:World) (dT sT ty elem:TypeId) (k g o dLen dCap:Nat) (a:Addr) (sLen sCap:Nat) (cur:Array Value) (t:TypeId) (cs:List Value)
 (hu:P.underlying dT=some (.slice elem)) (hs:(P.info? elem).map (·.size)=some k)
 (hg:w.heap[g]? = some (.cells cur t (0,0))) (hn:cs.length=Nat.min sLen dLen * k)
 (hsrc:∀ j v,cs[j]? = some v→w.cell? (a.add j)=some v) (hfit:o+cs.length≤cur.size) (h1:∀ v∈cs,v.oneCell'=true) :
 (Builtin.copy_ #[dT,sT] ty #[.slice (some ⟨g,o,none⟩) dLen dCap,.slice (some a) sLen sCap]).run P w =
  .ok (goInt (Nat.min sLen dLen)) (w.setRow g (cur.toList.take o++cs++cur.toList.drop (o+cs.length)).toArray):=by
 have hl:=run_loadCells_list (P:=P) w a cs hsrc
 have hst:=run_storeCells_at P g o t cs 0 cur w hg (by simpa using hfit) h1
 cases hq:P.info? elem with
 | none=>simp [hq] at hs
 | some i=>
  have hi:i.size=k:=by simpa [hq] using hs
  simp [Builtin.copy_,run_underlying hu,Builtin.lenOf,Builtin.firstCells,sizeOf,typeInfo,hq,hi,← hn,hl,hst]
structure InsW (P:Program) (f tS tI fo sz:Nat):Prop where
 shift:∀ (g n c i vb vc:Nat) (w W1 W2:World),i<n→n+1≤c→c≤9223372036854775807 →
  (∀ lb cb o,(callFunc fo #[.slice (some ⟨vb,0,none⟩) 1 vc,.slice (some ⟨g,o,none⟩) lb cb]).run P w = .ok (.value (.bool false)) w) →
  (∀ ty dc sc,(Builtin.copy_ #[tS,tS] ty #[.slice (some ⟨g,(i+1) * sz,none⟩) (n - i) dc,.slice (some ⟨g,i * sz,none⟩) (n+1 - i) sc]).run P w.drew = .ok (goInt (n - i)) W1) →
  (∀ ty dc,(Builtin.copy_ #[tS,tS] ty #[.slice (some ⟨g,i * sz,none⟩) (n+1 - i) dc,.slice (some ⟨vb,0,none⟩) 1 vc]).run P W1 = .ok (goInt 1) W2) →
  Calls P f #[.slice (some ⟨g,0,none⟩) n c,.int .i64 i,.slice (some ⟨vb,0,none⟩) 1 vc] w fun e w'=>e = .returned (.slice (some ⟨g,0,none⟩) (n+1) c)∧w'=W2
 end_:∀ (g n c vb vc:Nat) (w:World) (v':Value) (w':World),n≤c→c≤9223372036854775807 →
  (∀ ty,(Builtin.append_ #[tS,tS] ty #[.slice (some ⟨g,0,none⟩) n c,.slice (some ⟨vb,0,none⟩) 1 vc]).run P w = .ok v' w') →
  Calls P f #[.slice (some ⟨g,0,none⟩) n c,.int .i64 n,.slice (some ⟨vb,0,none⟩) 1 vc] w fun e w2=>e = .returned v'∧w2=w'
 nil_:∀ (vb vc:Nat) (w:World) (v':Value) (w':World),
  (∀ ty,(Builtin.append_ #[tS,tS] ty #[.slice none 0 0,.slice (some ⟨vb,0,none⟩) 1 vc]).run P w = .ok v' w') →
  Calls P f #[.slice none 0 0,.int .i64 0,.slice (some ⟨vb,0,none⟩) 1 vc] w fun e w2=>e = .returned v'∧w2=w'
 grow:∀ (g n c i vb vc g2 c2:Nat) (w W1 W2 W3:World),i<n→n≤c→c<n+1→n+1≤9223372036854775807→n+1≤c2→c2≤9223372036854775807 →
  (∀ ty,(Builtin.append_ #[tS,tI] ty #[.slice (some ⟨g,0,none⟩) i c,.int .i64 ((n:Int)+1 - (i:Int))]).run P w = .ok (.slice (some ⟨g2,0,none⟩) (n+1) c2) W1) →
  (∀ ty dc,(Builtin.copy_ #[tS,tS] ty #[.slice (some ⟨g2,i * sz,none⟩) (n+1 - i) dc,.slice (some ⟨vb,0,none⟩) 1 vc]).run P W1 = .ok (goInt 1) W2) →
  (∀ ty dc sc,(Builtin.copy_ #[tS,tS] ty #[.slice (some ⟨g2,(i+1) * sz,none⟩) (n - i) dc,.slice (some ⟨g,i * sz,none⟩) (n - i) sc]).run P W2.drew = .ok (goInt (n - i)) W3) →
  Calls P f #[.slice (some ⟨g,0,none⟩) n c,.int .i64 i,.slice (some ⟨vb,0,none⟩) 1 vc] w fun e w'=>e = .returned (.slice (some ⟨g2,0,none⟩) (n+1) c2)∧w'=W3
def zjk (w:World) (e sz:Nat) (v:Value) (n:Nat) (ys:List Value) (en:Ending) (w':World):Prop:=
 ∃ v',en = .returned v'∧w'.ownsRow 0 e sz v' (n+1) ys∧w.grownBy w' v.ownBlock∧∀ b,v'.ownBlock=some b→v.ownBlock=some b∨w.heap.size≤b
theorem zeT {w:World} {e sz n cap g:Nat} {xs:List Value} (h:w.ownsRow 0 e sz (.slice (some ⟨g,0,none⟩) n cap) n xs) (k:Nat):∀ j u,(xs.drop k)[j]? = some u→w.cell? ((⟨g,k,none⟩:Addr).add j)=some u:=by
 intro j u hu
 rw [List.getElem?_drop] at hu
 have:=h.cells (g:=g) rfl (k+j) u hu
 rw [Addr.add_lit] at this ⊢
 rwa [Nat.zero_add] at this
theorem znl {P:Program} {f tS tI fo sz bytes e:Nat} (W:InsW P f tS tI fo sz) (ht:P.underlying tS=some (.slice e)) {inf:TypeInfo} {z:Value} (hi:P.info? e=some inf) (hz:inf.zero=some z)
 (hsize:inf.size=sz) (hby:inf.bytes=bytes) (hzs:z.cells.size=sz) (hsz:0<sz) {w:World} {v:Value} {n:Nat} {xs news:List Value} {vb vc:Nat}
 (hown:w.ownsRow 0 e sz v n xs) (hu:w.ownsRow 0 e sz (.slice (some ⟨vb,0,none⟩) 1 vc) 1 news) (h1:∀ x∈news,x.oneCell'=true) (hb:(n+1) * bytes≤140737488355328) (h63:n+1≤maxLen) :
 Calls P f #[v,.int .i64 n,.slice (some ⟨vb,0,none⟩) 1 vc] w (zjk w e sz v n (xs++news)):=by
 have hc:=zeT hu 0
 rw [List.drop_zero] at hc
 obtain ⟨v',w',r1,r2,r3,_,r5⟩:=run_append_own_at (P:=P) w 0 tS 0 e inf z sz bytes ht hi hz hsize hby hzs hsz v n xs hown ⟨vb,0,none⟩ 1 vc news (by rw [hu.1]) hc h1 h63 hb (Nat.zero_le _)
 have post:zjk w e sz v n (xs++news) (.returned v') w':=by
  refine ⟨v',rfl,r2,r3,fun b hb=>?_⟩
  rcases r5 with q|q
  · exact .inl (q▸hb)
  · rw [q] at hb;cases hb;exact .inr (Nat.le_refl _)
 rcases hown.2 with ⟨rfl,rfl⟩|⟨g,cap,cur,rfl,_,hg,hnc,hcm,hcs,htake⟩
 · exact (W.nil_ vb vc w v' w' (fun ty=>r1)).mono (fun en w2 h=>by obtain ⟨rfl,rfl⟩:=h;exact post)
 · exact (W.end_ g n cap vb vc w v' w' hnc (by unfold maxLen at hcm;omega) (fun ty=>r1)).mono (fun en w2 h=>by obtain ⟨rfl,rfl⟩:=h;exact post)
theorem zpi {A news:List Value} {a b N:Nat} (ha:a≤N) (hN:N+b≤A.length) (hn:news.length=b) :
 let X:=(A.take N).drop a
 let c1:=A.take (a+b)++X++A.drop (a+b+X.length)
 let c2:=c1.take a++news++c1.drop (a+news.length)
 c1.length=A.length∧c2.length=A.length∧c2.take (N+b)=(A.take N).take a++news++(A.take N).drop a:=by
 intro X c1 c2
 have hX:X.length=N - a:=by simp only [X,List.length_drop,List.length_take];omega
 have h1:c1.length=A.length:=by simp only [c1,List.length_append,List.length_take,List.length_drop,hX];omega
 have hta:(A.take (a+b)).length=a+b:=by rw [List.length_take];omega
 have e1:c1.take a=A.take a:=by
  simp only [c1]
  rw [List.append_assoc,List.take_append_of_le_length (by omega),List.take_take]
  congr 1;omega
 have e2:c1.drop (a+news.length)=X++A.drop (a+b+X.length):=by
  simp only [c1]
  rw [hn,List.append_assoc,List.drop_append_of_le_length (by omega),List.drop_of_length_le (by omega),List.nil_append]
 have ec2:c2=A.take a++news++(X++A.drop (a+b+X.length)):=by simp only [c2];rw [e1,e2]
 have hla:(A.take a).length=a:=by rw [List.length_take];omega
 refine ⟨h1,?_,?_⟩
 · rw [ec2];simp only [List.length_append,List.length_drop,hX,hn,hla];omega
 · rw [ec2,← List.append_assoc,List.take_append_of_le_length (by simp only [List.length_append,hX,hn,hla];omega),List.take_of_length_le (by simp only [List.length_append,hX,hn,hla];omega),List.take_take]
   congr 3;omega
theorem setRow_size (w:World) (g:Nat) (c:Array Value):(w.setRow g c).heap.size=w.heap.size∧(w.setRow g c).os=w.os∧(w.setRow g c).tape=w.tape∧(w.setRow g c).output=w.output:=by
 exact ⟨by simp [World.setRow],rfl,rfl,rfl⟩
theorem zle {P:Program} {f tS tI fo sz e:Nat} (W:InsW P f tS tI fo sz) (ht:P.underlying tS=some (.slice e)) (hs:(P.info? e).map (·.size)=some sz)
 {w:World} {g n cap i:Nat} {xs news:List Value} {vb vc:Nat} (hi:i<n) (hroom:n+1≤cap) (hvb:vb≠g)
 (hov:∀ lb cb o,(callFunc fo #[.slice (some ⟨vb,0,none⟩) 1 vc,.slice (some ⟨g,o,none⟩) lb cb]).run P w = .ok (.value (.bool false)) w)
 (hown:w.ownsRow 0 e sz (.slice (some ⟨g,0,none⟩) n cap) n xs) (hu:w.ownsRow 0 e sz (.slice (some ⟨vb,0,none⟩) 1 vc) 1 news) (h0:∀ x∈xs,x.oneCell'=true) (h1:∀ x∈news,x.oneCell'=true) :
 Calls P f #[.slice (some ⟨g,0,none⟩) n cap,.int .i64 i,.slice (some ⟨vb,0,none⟩) 1 vc] w (zjk w e sz (.slice (some ⟨g,0,none⟩) n cap) n (xs.take (i * sz)++news++xs.drop (i * sz))):=by
 rcases hown.2 with ⟨hv,_⟩|⟨g',cap',cur,hv,_,hg,hnc,hcm,hcs,htake⟩
 · cases hv
 cases hv
 have hnl:news.length=sz:=by have:=hu.1;omega
 have hA:cur.toList.length=cap * sz:=by rw [Array.length_toList];exact hcs
 have m1:(i+1) * sz=i * sz+sz:=by rw [Nat.add_mul,Nat.one_mul]
 have m2:(n+1) * sz=n * sz+sz:=by rw [Nat.add_mul,Nat.one_mul]
 have m3:i * sz≤n * sz:=Nat.mul_le_mul_right _ (by omega)
 have m4:(n+1) * sz≤cap * sz:=Nat.mul_le_mul_right _ hroom
 have m5:(n - i) * sz=n * sz - i * sz:=Nat.sub_mul _ _ _
 obtain ⟨q1,q2,q3⟩:=zpi (A:=cur.toList) (news:=news) (a:=i * sz) (b:=sz) (N:=n * sz) m3 (by omega) hnl
 rw [htake] at q1 q2 q3
 have hXl:(xs.drop (i * sz)).length=(n - i) * sz:=by rw [List.length_drop,hown.1,m5]
 have r1:∀ ty dc sc,(Builtin.copy_ #[tS,tS] ty #[.slice (some ⟨g,(i+1) * sz,none⟩) (n - i) dc,.slice (some ⟨g,i * sz,none⟩) (n+1 - i) sc]).run P w.drew = .ok (goInt ((n:Int) - i)) (w.drew.setRow g (cur.toList.take (i * sz+sz)++xs.drop (i * sz)++cur.toList.drop (i * sz+sz+(xs.drop (i * sz)).length)).toArray):=fun ty dc sc=>by
  have:=zdS (P:=P) w.drew tS tS ty e sz g ((i+1) * sz) (n - i) dc ⟨g,i * sz,none⟩ (n+1 - i) sc cur e (xs.drop (i * sz)) ht hs hg
   (by rw [hXl];congr 1;simp only [Nat.min_def];split <;> omega) (zeT hown (i * sz)) (by rw [hXl,← Array.length_toList,hA];omega) (fun v hv=>h0 v (List.mem_of_mem_drop hv))
  have em:Nat.min (n+1 - i) (n - i)=n - i:=by simp only [Nat.min_def];split <;> omega
  rw [em,m1] at this
  have ei:((n - i:Nat):Int)=(n:Int) - i:=by omega
  rw [ei] at this
  rw [m1];exact this
 have hg1:=setRow_heap w.drew g cur (cur.toList.take (i * sz+sz)++xs.drop (i * sz)++cur.toList.drop (i * sz+sz+(xs.drop (i * sz)).length)).toArray e (0,0) hg
 have hc:=zeT hu 0
 rw [List.drop_zero] at hc
 generalize hW1:w.drew.setRow g (cur.toList.take (i * sz+sz)++xs.drop (i * sz)++cur.toList.drop (i * sz+sz+(xs.drop (i * sz)).length)).toArray=W1 at r1 hg1
 have hoth:∀ k,k≠g→W1.heap[k]? = w.heap[k]? := fun k hk=>by rw [← hW1];exact setRow_other w.drew g k _ hk
 have r2:∀ ty dc,(Builtin.copy_ #[tS,tS] ty #[.slice (some ⟨g,i * sz,none⟩) (n+1 - i) dc,.slice (some ⟨vb,0,none⟩) 1 vc]).run P W1 = .ok (goInt 1) _:=fun ty dc=>by
  have:=zdS (P:=P) W1 tS tS ty e sz g (i * sz) (n+1 - i) dc ⟨vb,0,none⟩ 1 vc _ e news ht hs hg1
   (by have hq:Nat.min 1 (n+1 - i)=1:=(by simp only [Nat.min_def];split <;> omega);rw [hnl,hq,Nat.one_mul]) (fun j u hj=>by
    have:=hc j u hj
    rw [Addr.add_lit] at this ⊢
    rw [World.cell?_of_block (w:=w) (w':=W1) (hoth vb hvb)];exact this) (by rw [List.size_toArray,q1,hA,hnl];omega) h1
  have em:Nat.min 1 (n+1 - i)=1:=by simp only [Nat.min_def];split <;> omega
  rw [em] at this
  exact this
 refine (W.shift g n cap i vb vc w W1 _ hi hroom (by unfold maxLen at hcm;omega) hov r1 r2).mono (fun en w2 h=>?_)
 obtain ⟨rfl,rfl⟩:=h
 have z1:=setRow_size w.drew g (cur.toList.take (i * sz+sz)++xs.drop (i * sz)++cur.toList.drop (i * sz+sz+(xs.drop (i * sz)).length)).toArray
 rw [hW1] at z1
 refine ⟨_,rfl,⟨?_,.inr ⟨g,cap,_,rfl,Nat.zero_le _,setRow_heap W1 g _ _ e (0,0) hg1,hroom,hcm,?_,?_⟩⟩,?_,fun b hb=>.inl hb⟩
 · simp only [List.length_append,List.length_take,List.length_drop,hown.1,hnl];omega
 · rw [List.size_toArray];simp only [List.toList_toArray] at q2 ⊢;rw [q2,hA]
 · rw [m2];simp only [List.toList_toArray] at q3 ⊢;exact q3
 · have z2:=setRow_size W1 g (((cur.toList.take (i * sz+sz)++xs.drop (i * sz)++cur.toList.drop (i * sz+sz+(xs.drop (i * sz)).length)).toArray.toList.take (i * sz))++news++((cur.toList.take (i * sz+sz)++xs.drop (i * sz)++cur.toList.drop (i * sz+sz+(xs.drop (i * sz)).length)).toArray.toList.drop (i * sz+news.length))).toArray
   exact ⟨z2.2.1.trans z1.2.1,z2.2.2.1.trans z1.2.2.1,z2.2.2.2.trans z1.2.2.2,Nat.le_of_eq (z2.1.trans z1.1).symm,fun k _ hk=>(setRow_other W1 g k _ (fun ee=>hk (by rw [ee];rfl))).trans (hoth k (fun ee=>hk (by rw [ee];rfl)))⟩
theorem zob {A news X:List Value} {a b N:Nat} (ha:a≤N) (hN:N+b≤A.length) (hn:news.length=b) (hX:X.length=N - a) :
 let c1:=A.take a++news++A.drop (a+news.length)
 let c2:=c1.take (a+b)++X++c1.drop (a+b+X.length)
 c1.length=A.length∧c2.length=A.length∧c2.take (N+b)=A.take a++news++X:=by
 intro c1 c2
 have hla:(A.take a).length=a:=by rw [List.length_take];omega
 have h1:c1.length=A.length:=by simp only [c1,List.length_append,List.length_drop,hla,hn];omega
 have e1:c1.take (a+b)=A.take a++news:=by
  simp only [c1]
  rw [List.take_append_of_le_length (by rw [List.length_append,hla,hn];exact Nat.le_refl _),List.take_of_length_le (by rw [List.length_append,hla,hn];exact Nat.le_refl _)]
 have ec2:c2=A.take a++news++X++c1.drop (a+b+X.length):=by simp only [c2];rw [e1]
 refine ⟨h1,?_,?_⟩
 · rw [ec2];simp only [List.length_append,List.length_drop,hX,hn,hla,h1];omega
 · rw [ec2,List.take_append_of_le_length (by simp only [List.length_append,hX,hn,hla];omega),List.take_of_length_le (by simp only [List.length_append,hX,hn,hla];omega)]
theorem zlZ {P:Program} {f tS tI fo sz e bytes:Nat} (W:InsW P f tS tI fo sz) (ht:P.underlying tS=some (.slice e)) (htI:P.underlying tI=some (.int .i64)) {inf:TypeInfo} {z:Value} (hi:P.info? e=some inf) (hz:inf.zero=some z)
 (hsize:inf.size=sz) (hby:inf.bytes=bytes) (hzs:z.cells.size=sz) (hsz:0<sz)
 {w:World} {g n cap i:Nat} {xs news:List Value} {vb vc:Nat} (hin:i<n) (hroom:cap<n+1) (hb:(n+1) * bytes≤140737488355328) (h63:n+1≤maxLen)
 (hown:w.ownsRow 0 e sz (.slice (some ⟨g,0,none⟩) n cap) n xs) (hu:w.ownsRow 0 e sz (.slice (some ⟨vb,0,none⟩) 1 vc) 1 news) (h0:∀ x∈xs,x.oneCell'=true) (h1:∀ x∈news,x.oneCell'=true) :
 Calls P f #[.slice (some ⟨g,0,none⟩) n cap,.int .i64 i,.slice (some ⟨vb,0,none⟩) 1 vc] w (zjk w e sz (.slice (some ⟨g,0,none⟩) n cap) n (xs.take (i * sz)++news++xs.drop (i * sz))):=by
 subst hsize hby
 have hs:(P.info? e).map (·.size)=some inf.size:=by rw [hi];rfl
 have hgs:=(hown.lt g rfl).2
 have hvs:=(hu.lt vb rfl).2
 have hown':=hown
 rcases hown.2 with ⟨hv,_⟩|⟨g',cap',cur,hv,_,hg,hnc,hcm,hcs,htake⟩
 · cases hv
 cases hv
 have hnl:news.length=inf.size:=by have:=hu.1;omega
 have m1:(i+1) * inf.size=i * inf.size+inf.size:=by rw [Nat.add_mul,Nat.one_mul]
 have m2:(n+1) * inf.size=n * inf.size+inf.size:=by rw [Nat.add_mul,Nat.one_mul]
 have m3:i * inf.size≤n * inf.size:=Nat.mul_le_mul_right _ (by omega)
 have m5:(n - i) * inf.size=n * inf.size - i * inf.size:=Nat.sub_mul _ _ _
 have hXl:(xs.drop (i * inf.size)).length=(n - i) * inf.size:=by rw [List.length_drop,hown.1,m5]
 have hol:(xs.take (i * inf.size)).length=i * inf.size:=by rw [List.length_take,hown.1];omega
 have hold:(Builtin.firstCells inf.size i (.slice (some ⟨g,0,none⟩) i cap)).run P w.drew = .ok (xs.take (i * inf.size)).toArray w.drew:=
  run_firstCells_some (P:=P) w.drew inf.size i ⟨g,0,none⟩ i cap (xs.take (i * inf.size)) hol (fun j v hj=>by
   rw [List.getElem?_take] at hj
   split at hj
   · exact zeT hown 0 j v (by rw [List.drop_zero];exact hj)
   · cases hj)
 have hkk:(n:Int)+1 - (i:Int)=((n+1 - i:Nat):Int):=by omega
 have hik:i+(n+1 - i)=n+1:=by omega
 have hfit:Builtin.nextslicecap (n+1) cap * inf.bytes≤281474976710656:=growslice_fits hroom hb
 have r0:∀ ty,(Builtin.append_ #[tS,tI] ty #[.slice (some ⟨g,0,none⟩) i cap,.int .i64 ((n:Int)+1 - (i:Int))]).run P w = .ok (.slice (some ⟨w.heap.size,0,none⟩) (n+1) (grownCap w (n+1) cap e)) _:=fun ty=>by
  have h:=Lib.run_append_grow_zeros w tS tI ty e inf z .i64 .i64 ht htI hi hz (some ⟨g,0,none⟩) i cap (xs.take (i * inf.size)) hold (n+1 - i) (by omega) hsz (by omega) (by unfold maxLen at h63;omega)
   (by have hq:(n+1 - i) * inf.bytes≤(n+1) * inf.bytes:=(Nat.mul_le_mul_right _ (by omega));omega) (by rw [hik];exact hfit)
  rw [hik] at h
  rw [hkk]
  exact h
 generalize hG:grownCap w (n+1) cap e=G at r0
 have hGn:n+1≤G:=by rw [← hG];exact grownCap_ge w _ _ _
 have hGm:G≤maxLen:=by rw [← hG];exact grownCap_le_maxLen w (n+1) cap e h63
 generalize hR:(xs.take (i * inf.size)).toArray++Builtin.zeroCells z.cells (n+1 - i)++Builtin.zeroCells z.cells (G - (n+1))=R at r0
 have hRs:R.size=G * inf.size:=by
  rw [← hR]
  simp only [Array.size_append,List.size_toArray,size_zeroCells,hzs,hol,← Nat.add_mul]
  congr 1;omega
 have hRt:R.toList.take (i * inf.size)=xs.take (i * inf.size):=by
  rw [← hR,Array.toList_append,Array.toList_append,List.append_assoc,List.toList_toArray,List.take_append_of_le_length (by omega),List.take_of_length_le (by omega)]
 have m4:(n+1) * inf.size≤G * inf.size:=Nat.mul_le_mul_right _ hGn
 have hRl:R.toList.length=G * inf.size:=by rw [Array.length_toList];exact hRs
 obtain ⟨q1,q2,q3⟩:=zob (A:=R.toList) (news:=news) (X:=xs.drop (i * inf.size)) (a:=i * inf.size) (b:=inf.size) (N:=n * inf.size) m3 (by omega) hnl (by rw [hXl,m5])
 rw [hRt] at q1 q2 q3
 have hg1:(w.drew.alloc (.cells R e)).heap[w.heap.size]? = some (.cells R e (0,0)):=heap_alloc_new w.drew _
 have ho1:∀ k,k<w.heap.size→(w.drew.alloc (.cells R e)).heap[k]? = w.heap[k]? := fun k hk=>heap_alloc_old w.drew _ hk
 generalize hW1:w.drew.alloc (.cells R e)=W1 at r0 hg1 ho1
 have hc:=zeT hu 0
 rw [List.drop_zero] at hc
 have r1:∀ ty dc,(Builtin.copy_ #[tS,tS] ty #[.slice (some ⟨w.heap.size,i * inf.size,none⟩) (n+1 - i) dc,.slice (some ⟨vb,0,none⟩) 1 vc]).run P W1 = .ok (goInt 1) (W1.setRow w.heap.size (xs.take (i * inf.size)++news++R.toList.drop (i * inf.size+news.length)).toArray):=fun ty dc=>by
  have em:Nat.min 1 (n+1 - i)=1:=by simp only [Nat.min_def];split <;> omega
  have:=zdS (P:=P) W1 tS tS ty e inf.size w.heap.size (i * inf.size) (n+1 - i) dc ⟨vb,0,none⟩ 1 vc R e news ht hs hg1
   (by rw [hnl,em,Nat.one_mul]) (fun j u hj=>by
    have:=hc j u hj
    rw [Addr.add_lit] at this ⊢
    rw [World.cell?_of_block (w:=w) (w':=W1) (ho1 vb hvs)];exact this) (by rw [hRs,hnl];omega) h1
  rw [em,hRt] at this
  exact this
 have hg2:=setRow_heap W1 w.heap.size R (xs.take (i * inf.size)++news++R.toList.drop (i * inf.size+news.length)).toArray e (0,0) hg1
 have ho2:∀ k,k<w.heap.size→(W1.setRow w.heap.size (xs.take (i * inf.size)++news++R.toList.drop (i * inf.size+news.length)).toArray).heap[k]? = w.heap[k]? := fun k hk=>(setRow_other W1 w.heap.size k _ (by omega)).trans (ho1 k hk)
 have z2:=setRow_size W1 w.heap.size (xs.take (i * inf.size)++news++R.toList.drop (i * inf.size+news.length)).toArray
 generalize hW2:W1.setRow w.heap.size (xs.take (i * inf.size)++news++R.toList.drop (i * inf.size+news.length)).toArray=W2 at r1 hg2 ho2 z2
 have r2:∀ ty dc sc,(Builtin.copy_ #[tS,tS] ty #[.slice (some ⟨w.heap.size,(i+1) * inf.size,none⟩) (n - i) dc,.slice (some ⟨g,i * inf.size,none⟩) (n - i) sc]).run P W2.drew = .ok (goInt ((n:Int) - i)) _:=fun ty dc sc=>by
  have em:Nat.min (n - i) (n - i)=n - i:=by simp only [Nat.min_def];split <;> omega
  have:=zdS (P:=P) W2.drew tS tS ty e inf.size w.heap.size ((i+1) * inf.size) (n - i) dc ⟨g,i * inf.size,none⟩ (n - i) sc _ e (xs.drop (i * inf.size)) ht hs hg2
   (by rw [hXl,em]) (fun j u hj=>by
    have:=zeT hown (i * inf.size) j u hj
    rw [Addr.add_lit] at this ⊢
    rw [World.cell?_of_block (w:=w) (w':=W2.drew) (ho2 g hgs)];exact this) (by rw [List.size_toArray,q1,hRl,hXl];omega) (fun v hv=>h0 v (List.mem_of_mem_drop hv))
  have ei:((n - i:Nat):Int)=(n:Int) - i:=by omega
  rw [em,ei] at this
  exact this
 refine (W.grow g n cap i vb vc w.heap.size G w W1 W2 _ hin hnc hroom (by unfold maxLen at h63;omega) hGn (by unfold maxLen at hGm;omega) r0 r1 r2).mono (fun en w2 h=>?_)
 obtain ⟨rfl,rfl⟩:=h
 rw [m1]
 refine ⟨_,rfl,⟨?_,.inr ⟨w.heap.size,G,_,rfl,Nat.zero_le _,setRow_heap W2.drew _ _ _ e (0,0) hg2,hGn,hGm,?_,?_⟩⟩,?_,fun b hb=>by cases hb;exact .inr (Nat.le_refl _)⟩
 · simp only [List.length_append,List.length_take,List.length_drop,hown.1,hnl];omega
 · rw [List.size_toArray];simp only [List.toList_toArray] at q2 ⊢;rw [q2,hRl]
 · rw [m2];simp only [List.toList_toArray] at q3 ⊢;exact q3
 · have z3:=setRow_size W2.drew w.heap.size ((xs.take (i * inf.size)++news++R.toList.drop (i * inf.size+news.length)).toArray.toList.take (i * inf.size+inf.size)++xs.drop (i * inf.size)++(xs.take (i * inf.size)++news++R.toList.drop (i * inf.size+news.length)).toArray.toList.drop (i * inf.size+inf.size+(xs.drop (i * inf.size)).length)).toArray
   have y1:W1.os=w.os∧W1.tape=w.tape∧W1.output=w.output∧w.heap.size≤W1.heap.size:=by rw [← hW1];exact ⟨rfl,rfl,rfl,by simp⟩
   exact ⟨z3.2.1.trans (z2.2.1.trans y1.1),z3.2.2.1.trans (z2.2.2.1.trans y1.2.1),z3.2.2.2.trans (z2.2.2.2.trans y1.2.2.1),Nat.le_trans y1.2.2.2 (Nat.le_of_eq (z3.1.trans z2.1).symm),fun k hk _=>(setRow_other W2.drew w.heap.size k _ (by omega)).trans (ho2 k hk)⟩
theorem zkW {P:Program} {tS tB e:TypeId} {sz:Nat} (ht:P.underlying tS=some (.slice e)) {inf:TypeInfo} (hi:P.info? e=some inf) (hsize:inf.size=sz)
 {w:World} {g n cap vb vc:Nat} {xs news:List Value} (hvb:vb≠g) (hpos:0<cap * sz)
 (hown:w.ownsRow 0 e sz (.slice (some ⟨g,0,none⟩) n cap) n xs) (hu:w.ownsRow 0 e sz (.slice (some ⟨vb,0,none⟩) 1 vc) 1 news) (o lb cb:Nat) :
 (Extern.SlicesOverlaps.overlaps #[tS,tS] #[tB] #[.slice (some ⟨vb,0,none⟩) 1 vc,.slice (some ⟨g,o,none⟩) lb cb]).run P w = .ok (.bool false) w:=by
 rcases hown.2 with ⟨hv,_⟩|⟨g',cap',cur,hv,_,hg,hnc,hcm,hcs,htake⟩
 · cases hv
 cases hv
 rcases hu.2 with ⟨hv,_⟩|⟨g',cap',cur',hv,_,hg',_,_,_,_⟩
 · cases hv
 cases hv
 exact Lib.run_overlaps_apart w tS tB e ht sz (fun w=>by simp [sizeOf,typeInfo,hi,hsize]) ⟨vb,0,none⟩ ⟨g,o,none⟩ 1 vc lb cb hvb e e cur'.size cur.size
  (by simp [World.shape?,hg']) (by simp [World.shape?,hg]) (by omega) (by simp [World.frozen?,hg']) (by simp [World.frozen?,hg'])
theorem znk {P:Program} {f tS tI tB fo sz e bytes:Nat} (W:InsW P f tS tI fo sz)
 (hfo:∀ (w:World) (a b:Value),(Extern.SlicesOverlaps.overlaps #[tS,tS] #[tB] #[a,b]).run P w = .ok (.bool false) w→(callFunc fo #[a,b]).run P w = .ok (.value (.bool false)) w)
 (ht:P.underlying tS=some (.slice e)) (htI:P.underlying tI=some (.int .i64)) {inf:TypeInfo} {z:Value} (hi:P.info? e=some inf) (hz:inf.zero=some z)
 (hsize:inf.size=sz) (hby:inf.bytes=bytes) (hzs:z.cells.size=sz) (hsz:0<sz)
 {w:World} {v u:Value} {n i:Nat} {xs news:List Value} (hin:i≤n) (hb:(n+1) * bytes≤140737488355328) (h63:n+1≤maxLen)
 (hown:w.ownsRow 0 e sz v n xs) (hu:w.ownsRow 0 e sz u 1 news) (hne:∀ b,v.ownBlock=some b→u.ownBlock≠some b) (h0:∀ x∈xs,x.oneCell'=true) (h1:∀ x∈news,x.oneCell'=true) :
 Calls P f #[v,.int .i64 i,u] w (zjk w e sz v n (xs.take (i * sz)++news++xs.drop (i * sz))):=by
 rcases hu.2 with ⟨_,h⟩|⟨vb,vc,cur',rfl,_,hg',_,_,_,_⟩
 · cases h
 by_cases hin':i=n
 · subst hin'
   have e1:xs.take (i * sz)++news++xs.drop (i * sz)=xs++news:=by
    rw [List.take_of_length_le (by rw [hown.1];exact Nat.le_refl _),List.drop_of_length_le (by rw [hown.1];exact Nat.le_refl _),List.append_nil]
   rw [e1]
   exact znl W ht hi hz hsize hby hzs hsz hown hu h1 hb h63
 · have hown':=hown
   rcases hown.2 with ⟨_,h⟩|⟨g,cap,cur,rfl,_,hg,hnc,hcm,hcs,htake⟩
   · omega
   have hvb:vb≠g:=fun ee=>hne g rfl (by rw [ee];rfl)
   by_cases hroom:n+1≤cap
   · exact zle W ht (by rw [hi];exact congrArg some hsize) (by omega) hroom hvb (fun lb cb o=>hfo w _ _ (zkW ht hi hsize hvb (Nat.mul_pos (by omega) hsz) hown' hu o lb cb)) hown' hu h0 h1
   · exact zlZ W ht htI hi hz hsize hby hzs hsz (by omega) (by omega) hb h63 hown' hu h0 h1
theorem zpl {xs news:List Value} {sz n i k j:Nat} (hx:xs.length=n * sz) (hn:news.length=sz) (hi:i≤n) (hk:k<n+1) (hj:j<sz) :
 (xs.take (i * sz)++news++xs.drop (i * sz))[k * sz+j]? = if k<i then xs[k * sz+j]? else if k=i then news[j]? else xs[(k - 1) * sz+j]? := by
 have m1:i * sz≤n * sz:=Nat.mul_le_mul_right _ hi
 have hla:(xs.take (i * sz)).length=i * sz:=by rw [List.length_take];omega
 by_cases h1:k<i
 · rw [if_pos h1]
   have:(k+1) * sz≤i * sz:=Nat.mul_le_mul_right _ h1
   rw [Nat.add_mul,Nat.one_mul] at this
   rw [List.append_assoc,List.getElem?_append_left (by omega),List.getElem?_take,if_pos (by omega)]
 · rw [if_neg h1]
   by_cases h2:k=i
   · rw [if_pos h2,h2,List.getElem?_append_left (by rw [List.length_append];omega),List.getElem?_append_right (by omega),hla]
     congr 1;omega
   · rw [if_neg h2]
     have:(i+1) * sz≤k * sz:=Nat.mul_le_mul_right _ (by omega)
     rw [Nat.add_mul,Nat.one_mul] at this
     have e:(k - 1) * sz=k * sz - sz:=by rw [Nat.sub_mul,Nat.one_mul]
     rw [List.getElem?_append_right (by rw [List.length_append];omega),List.length_append,hla,hn,List.getElem?_drop,e]
     congr 1;omega
theorem zmQ {T:Type} [Inhabited T] (l:List T) (x:T) {i k:Nat} (hi:i≤l.length):(l.take i++[x]++l.drop i).getD k default=if k<i then l.getD k default else if k=i then x else l.getD (k - 1) default:=by
 have hla:(l.take i).length=i:=by rw [List.length_take];omega
 simp only [List.getD_eq_getElem?_getD]
 by_cases h1:k<i
 · rw [if_pos h1,List.append_assoc,List.getElem?_append_left (by omega),List.getElem?_take,if_pos h1]
 · rw [if_neg h1]
   by_cases h2:k=i
   · rw [if_pos h2,h2,List.getElem?_append_left (by rw [List.length_append,hla];simp),List.getElem?_append_right (by omega),hla];simp
   · rw [if_neg h2,List.getElem?_append_right (by rw [List.length_append,hla];simp;omega),List.length_append,hla,List.getElem?_drop]
     congr 2;simp;omega
theorem znm {P:Program} {f tS tI tB fo sz e:Nat} (hent:Enters P f) (W:InsW P f tS tI fo sz)
 (hfo:∀ (w:World) (a b:Value),(Extern.SlicesOverlaps.overlaps #[tS,tS] #[tB] #[a,b]).run P w = .ok (.bool false) w→(callFunc fo #[a,b]).run P w = .ok (.value (.bool false)) w)
 (ht:P.underlying tS=some (.slice e)) (htI:P.underlying tI=some (.int .i64)) {E:TyD} (hE:TyOk P e E) (hsz:E.size=sz) (hpos:0<sz)
 {T:Type} [Inhabited T] (enc:T→List AV) (l:List T) (i:Int) (x:T) (h0:0≤i∧i≤(l.length:Int)) (hroom:room (l.length+1) E.bytes) :
 CtrO P f [.buf 700 l.length,.int .i64 i,.buf 701 1] [(700,bufL e sz enc l),(701,bufL e sz enc [x])] (.buf 900 (l.take i.toNat++[x]++l.drop i.toNat).length) [(701,bufL e sz enc [x]),(700,.dead),(900,bufL e sz enc (l.take i.toNat++[x]++l.drop i.toNat))]:=by
 refine ⟨hent,fun h w ρ vs hR hp O=>?_⟩
 obtain ⟨hl,hg⟩:=hR
 match vs,hl with
 | [v,y,u],_=>
 have hv:=hg 0 _ v rfl rfl
 have hy:=hg 1 _ y rfl rfl
 have hu:=hg 2 _ u rfl rfl
 obtain ⟨v0,xs,b1,b2,b3,b4,b5⟩:=O.blk 700 _ rfl
 obtain ⟨u0,news,d1,d2,d3,d4,d5⟩:=O.blk 701 _ rfl
 have ev:v=v0:=by
  generalize hn:l.length=n at hv
  cases hv with
  | buf _ _ _ n2 sz2 _ v' hb hle h1 he=>rw [b1] at hb;cases hb;exact he hn.symm
 have eu:u=u0:=by
  generalize hn:1=n at hu
  cases hu with
  | buf _ _ _ n2 sz2 _ v' hb hle h1 he=>rw [d1] at hb;cases hb;exact he hn.symm
 subst ev eu
 cases hy
 obtain ⟨k,rfl⟩:=Int.eq_ofNat_of_zero_le h0.1
 have hk:k≤l.length:=by omega
 rw [Int.toNat_natCast]
 have hlen:(l.take k++[x]++l.drop k).length=l.length+1:=by simp;omega
 rw [hlen]
 obtain ⟨inf,i1,i2,i3,i4⟩:=hE.info
 have hne:∀ b,v.ownBlock=some b→u.ownBlock≠some b:=fun b q1 q2=>by
  have:=O.inj 700 701 _ _ b b1 d1 q1 q2
  omega
 have hins:=znk (tB:=tB) W hfo ht htI i1 i4 (i2.trans hsz) i3 (by rw [zbd hE];simpa [hsz] using hE.len) hpos hk hroom.1 (zgg hroom) b2 d2 hne b4 d4
 refine (callsIn_wide.2 hins).mono (fun en w' he=>?_)
 obtain ⟨v',rfl,own',gr,hblk⟩:=he
 have hkeep:∀ q,q<w.heap.size→¬ zcs ρ q→w'.heap[q]? = w.heap[q]? := fun q hq hn=>gr.block q hq (fun ee=>hn ⟨700,_,b1,ee.symm⟩)
 have hul:∀ b,u.ownBlock=some b→b<w.heap.size:=fun b hb=>(O.own 701 _ b d1 hb).2
 have hvu:∀ b,v'.ownBlock=some b→u.ownBlock≠some b:=fun b q1 q2=>by
  rcases hblk b q1 with q|q
  · exact hne b q q2
  · have:=hul b q2;omega
 refine ⟨h,fun id=>if id=900 then some (.sl (l.length+1) sz v') else if id=701 then some (.sl 1 sz u) else if id=700 then some (.sl (l.length+1) sz (.slice none 0 0)) else none,gr.os,gr.tape,gr.output,gr.size,hkeep,fun b o hb=>hb,fun b o hb=>.inl hb,?_,⟨fun id y hy=>?_,fun id hid=>?_,fun id li b q1 q2=>?_,fun id id' li li' b q1 q2 q3 q4=>?_⟩,fun id li b q1 q2=>?_,fun id li li' q1 q2=>?_⟩
 · have hcell:v'.oneCell'=true:=by
    rcases own'.2 with ⟨rfl,_⟩|⟨_,_,_,rfl,_⟩ <;> rfl
   exact .buf _ _ _ _ _ _ _ (if_pos rfl) (Nat.le_refl _) hcell (fun _=>rfl)
 · by_cases e7:id=701
   · subst e7
     simp only [mm] at hy;rw [zah] at hy;cases hy
     exact ⟨u,news,by show (if (701:Nat)=900 then _ else _)=_;rw [if_neg (by omega),if_pos rfl];rfl,d2.kept gr (by cases hu0:u.ownBlock with
      | none=>exact .inl rfl
      | some b=>exact .inr (fun ee=>hne b ee.symm hu0)),d3,d4,d5⟩
   by_cases e0:id=700
   · subst e0
     simp only [mm] at hy;rw [zae _ _ (by omega),zah] at hy;cases hy
     exact ⟨l.length+1,sz,rfl⟩
   have hid:id=900:=by
    by_cases e:id=900
    · exact e
    · simp only [mm] at hy;rw [zae _ _ e7,zae _ _ e0,zae _ _ e] at hy;cases hy
   subst hid
   simp only [mm] at hy;rw [zae _ _ (by omega),zae _ _ (by omega),zah] at hy;cases hy
   have g3:∀ q,q<l.length+1→(enc ((l.take k++[x]++l.drop k).getD q default)).length=sz:=fun q hq=>by
    rw [zmQ l x hk]
    split
    · exact b3 q (by omega)
    · split
      · exact d3 0 Nat.zero_lt_one
      · exact b3 (q - 1) (by omega)
   refine ⟨v',_,by rw [hlen];exact if_pos rfl,by rw [hlen];exact own',fun q hq=>g3 q (by rw [hlen] at hq;exact hq),fun y hy=>?_,fun q j c y hq hc hy=>?_⟩
   · rcases List.mem_append.1 hy with hy|hy
     · rcases List.mem_append.1 hy with hy|hy
       · exact b4 y (List.mem_of_mem_take hy)
       · exact d4 y hy
     · exact b4 y (List.mem_of_mem_drop hy)
   · rw [hlen] at hq
     have hc:(enc ((l.take k++[x]++l.drop k).getD q default))[j]? = some c:=hc
     have hj:j<sz:=by rw [← g3 q hq];exact (List.getElem?_eq_some_iff.1 hc).1
     rw [zpl b2.1 (by have:=d2.1;simpa using this) hk hq hj] at hy
     rw [zmQ l x hk] at hc
     by_cases h1:q<k
     · rw [if_pos h1] at hy hc;exact b5 q j c y (by omega) hc hy
     · rw [if_neg h1] at hy hc
       by_cases h2:q=k
       · rw [if_pos h2] at hy hc
         exact d5 0 j c y Nat.zero_lt_one hc (by rw [Nat.zero_mul,Nat.zero_add];exact hy)
       · rw [if_neg h2] at hy hc
         exact b5 (q - 1) j c y (by omega) hc hy
 · have n9:id≠900:=fun ee=>by subst ee;simp only [mm] at hid;rw [zae _ _ (by omega),zae _ _ (by omega),zah] at hid;cases hid
   have n0:id≠700:=fun ee=>by subst ee;simp only [mm] at hid;rw [zae _ _ (by omega),zah] at hid;cases hid
   have n7:id≠701:=fun ee=>by subst ee;simp only [mm] at hid;rw [zah] at hid;cases hid
   show (if id=900 then _ else if id=701 then _ else if id=700 then _ else none)=none
   rw [if_neg n9,if_neg n7,if_neg n0]
 · have q1:(if id=900 then some (LI.sl (l.length+1) sz v') else if id=701 then some (LI.sl 1 sz u) else if id=700 then some (LI.sl (l.length+1) sz (.slice none 0 0)) else none)=some li:=q1
   split at q1
   · cases q1
     rcases hblk b q2 with hb|hb
     · have:=O.own 700 _ b b1 hb
       exact ⟨this.1,Nat.lt_of_lt_of_le this.2 gr.size⟩
     · refine ⟨?_,(own'.lt b q2).2⟩
       cases hh:h b with
       | none=>rfl
       | some o=>have:=zfe (hp b o hh);omega
   · split at q1
     · cases q1
       have:=O.own 701 _ b d1 q2
       exact ⟨this.1,Nat.lt_of_lt_of_le this.2 gr.size⟩
     · split at q1
       · cases q1;cases q2
       · cases q1
 · have q1:(if id=900 then some (LI.sl (l.length+1) sz v') else if id=701 then some (LI.sl 1 sz u) else if id=700 then some (LI.sl (l.length+1) sz (.slice none 0 0)) else none)=some li:=q1
   have q2:(if id'=900 then some (LI.sl (l.length+1) sz v') else if id'=701 then some (LI.sl 1 sz u) else if id'=700 then some (LI.sl (l.length+1) sz (.slice none 0 0)) else none)=some li':=q2
   by_cases a9:id=900
   · by_cases b9:id'=900
     · omega
     · rw [if_pos a9] at q1;rw [if_neg b9] at q2;cases q1
       split at q2
       · cases q2;exact absurd q4 (hvu b q3)
       · split at q2
         · cases q2;cases q4
         · cases q2
   · rw [if_neg a9] at q1
     split at q1
     · cases q1
       by_cases b9:id'=900
       · rw [if_pos b9] at q2;cases q2;exact absurd q3 (hvu b q4)
       · rw [if_neg b9] at q2
         split at q2
         · omega
         · split at q2
           · cases q2;cases q4
           · cases q2
     · split at q1
       · cases q1;cases q3
       · cases q1
 · have q1:(if id=900 then some (LI.sl (l.length+1) sz v') else if id=701 then some (LI.sl 1 sz u) else if id=700 then some (LI.sl (l.length+1) sz (.slice none 0 0)) else none)=some li:=q1
   split at q1
   · cases q1
     rcases hblk b q2 with hb|hb
     · exact .inl ⟨700,_,b1,hb⟩
     · exact .inr hb
   · split at q1
     · cases q1;exact .inl ⟨701,_,d1,q2⟩
     · split at q1
       · cases q1;cases q2
       · cases q1
 · have q2:(if id=900 then some (LI.sl (l.length+1) sz v') else if id=701 then some (LI.sl 1 sz u) else if id=700 then some (LI.sl (l.length+1) sz (.slice none 0 0)) else none)=some li':=q2
   split at q2
   · next e9=>
     subst e9
     have:=O.dom 900 rfl
     rw [this] at q1;cases q1
   · split at q2
     · next e7=>
       subst e7
       cases q2
       rw [d1] at q1;cases q1
       exact LI.le_refl _
     · split at q2
       · next e0=>
         subst e0
         cases q2
         rw [b1] at q1;cases q1
         exact .inr (.inl ⟨_,_,_,_,_,rfl,rfl,Nat.lt_succ_self _⟩)
       · cases q2
end Go.Av
end
/- Cells that are only read from now on, wherever they are named. -/
section
set_option linter.all false
namespace Go.Av
mutual
/-- A value in which a name of cells is read as what they are. -/
def fc (id:Nat) (cs0:List AV) (K:List Nat):AV→Option AV
 | .lp i off=>match Nat.beq i id with
  | true=>match zdv off cs0 with
   | some r=>some (.rp r)
   | none=>none
  | false=>match zbc K i with
   | true=>some (.lp i off)
   | false=>none
 | .agg cs=>match fcL id cs0 K cs with
  | some cs'=>some (.agg cs')
  | none=>none
 | .tup cs=>match fcL id cs0 K cs with
  | some cs'=>some (.tup cs')
  | none=>none
 | .fn f fs cs=>match fcL id cs0 K fs with
  | some fs'=>match fcL id cs0 K cs with
   | some cs'=>some (.fn f fs' cs')
   | none=>none
  | none=>none
 | v=>match zay K v with
  | true=>some v
  | false=>none
def fcL (id:Nat) (cs0:List AV) (K:List Nat):List AV→Option (List AV)
 | []=>some []
 | c::cs=>match fc id cs0 K c with
  | some c'=>match fcL id cs0 K cs with
   | some cs'=>some (c'::cs')
   | none=>none
  | none=>none
end
theorem zps {id:Nat} {cs0:List AV} {K:List Nat} {x y:AV} (h:fc id cs0 K x=some y) (h1:∀ i n,x ≠ .lp i n) (h2:∀ cs,x ≠ .agg cs) (h3:∀ cs,x ≠ .tup cs) (h4:∀ f fs cs,x ≠ .fn f fs cs):zay K x=true∧y=x:=by
 cases x <;> first|exact absurd rfl (h1 _ _)|exact absurd rfl (h2 _)|exact absurd rfl (h3 _)|exact absurd rfl (h4 _ _ _)|(simp only [fc] at h;split at h <;> cases h;exact ⟨by assumption,rfl⟩)
theorem zhG {id:Nat} {cs0:List AV} {K:List Nat}:∀ {cs cs':List AV},fcL id cs0 K cs=some cs'→cs'.length=cs.length ∧
 ∀ (i:Nat) (c':AV),cs'[i]? = some c'→∃ c,cs[i]? = some c∧fc id cs0 K c=some c'
 | [],cs',h=>by
  simp only [fcL] at h;cases h
  exact ⟨rfl,fun i c' hc=>(by simp at hc)⟩
 | c::cs,cs',h=>by
  simp only [fcL] at h
  split at h
  · rename_i d hd
    split at h
    · rename_i ds hds
      cases h
      obtain ⟨h1,h2⟩:=zhG hds
      refine ⟨by simp [h1],fun i c' hc=>?_⟩
      cases i with
      | zero=>simp at hc;subst hc;exact ⟨c,rfl,hd⟩
      | succ i=>
       obtain ⟨c0,e1,e2⟩:=h2 i c' (by simpa using hc)
       exact ⟨c0,by simpa using e1,e2⟩
    · cases h
  · cases h
theorem Rel.fc {h h':Hp} {ρ ρ':Rho} {id b0:Nat} {cs0:List AV} {K:List Nat} (hle:Le h h') (hρ:∀ i,i∈K→ρ' i=ρ i) (hid:ρ id=some (.blk b0))
 (hr:∀ off r,zdv off cs0=some r→Rel h' ρ' (.rp r) (.pointer (some ⟨b0,off,none⟩))) {x:AV} {v:Value} (H:Rel h ρ x v) :
 ∀ {y:AV},Go.Av.fc id cs0 K x=some y→Rel h' ρ' y v:=by
 obtain ⟨h9,hh,H'⟩:∃ h9,h=h9∧Rel h9 ρ x v:=⟨h,rfl,H⟩
 clear H
 induction H' with
 | lp ρ i off b hb=>
  intro y hy
  simp only [Go.Av.fc] at hy
  split at hy
  · rename_i hi
    have:=Nat.eq_of_beq_eq_true hi
    subst this
    rw [hid] at hb;cases hb
    split at hy
    · rename_i r hd
      cases hy
      exact hr off r hd
    · cases hy
  · split at hy
    · rename_i hk
      cases hy
      exact .lp _ _ _ _ ((hρ i (zaz hk)).trans hb)
    · cases hy
 | agg ρ cs vs hl hc ih=>
  intro y hy
  simp only [Go.Av.fc] at hy
  split at hy
  · rename_i cs' hcs
    cases hy
    obtain ⟨e1,e2⟩:=zhG hcs
    refine .agg _ _ _ (by rw [hl,e1]) fun i c v h1 h2=>?_
    obtain ⟨c0,k1,k2⟩:=e2 i c h1
    exact ih i c0 v k1 h2 hρ hid hh k2
  · cases hy
 | tup ρ cs vs hl hc ih=>
  intro y hy
  simp only [Go.Av.fc] at hy
  split at hy
  · rename_i cs' hcs
    cases hy
    obtain ⟨e1,e2⟩:=zhG hcs
    refine .tup _ _ _ (by rw [hl,e1]) fun i c v h1 h2=>?_
    obtain ⟨c0,k1,k2⟩:=e2 i c h1
    exact ih i c0 v k1 h2 hρ hid hh k2
  · cases hy
 | fn ρ f fs cs vs ws hl hm hc hd ih1 ih2=>
  intro y hy
  simp only [Go.Av.fc] at hy
  split at hy
  · rename_i fs' hfs
    split at hy
    · rename_i cs' hcs
      cases hy
      obtain ⟨e1,e2⟩:=zhG hfs
      obtain ⟨e3,e4⟩:=zhG hcs
      refine .fn _ _ _ _ _ _ (by rw [hl,e1]) (by rw [hm,e3]) (fun i c v h1 h2=>?_) (fun i c v h1 h2=>?_)
      · obtain ⟨c0,k1,k2⟩:=e2 i c h1
        exact ih1 i c0 v k1 h2 hρ hid hh k2
      · obtain ⟨c0,k1,k2⟩:=e4 i c h1
        exact ih2 i c0 v k1 h2 hρ hid hh k2
    · cases hy
  · cases hy
 | _=>
  intro y hy
  obtain ⟨ho,rfl⟩:=zps hy (fun _ _ e=>by cases e) (fun _ e=>by cases e) (fun _ e=>by cases e) (fun _ _ _ e=>by cases e)
  subst hh
  refine Rel.forget hρ (Rel.heap ?_ hle) ho
  first|(constructor <;> assumption)|(constructor;done)
def fcS (id:Nat) (cs0:List AV) (K:List Nat) (L:List (Nat×AV)):List Nat→Option (List (Nat×AV))
 | []=>some []
 | t::ts=>match zgv L t with
  | some x=>match fc id cs0 K x with
   | some y=>match fcS id cs0 K L ts with
    | some L'=>some ((t,y)::L')
    | none=>none
   | none=>none
  | none=>none
def fcB (id:Nat) (cs0:List AV) (K:List Nat):Blk→Option Blk
 | .cells cs=>match fcL id cs0 K cs with
  | some cs'=>some (.cells cs')
  | none=>none
 | b=>match zeh K b with
  | true=>some b
  | false=>none
def fcM (id:Nat) (cs0:List AV) (K:List Nat) (M:List (Nat×Blk)):List Nat→Option (List (Nat×Blk))
 | []=>some []
 | t::ts=>match mm M t with
  | some x=>match fcB id cs0 K x with
   | some y=>match fcM id cs0 K M ts with
    | some M'=>some ((t,y)::M')
    | none=>none
   | none=>none
  | none=>none
theorem zmU {id:Nat} {cs0:List AV} {K:List Nat} {L:List (Nat×AV)}:∀ {ts:List Nat} {L':List (Nat×AV)},fcS id cs0 K L ts=some L' →
 ∀ t,fr L' t = .any∨fc id cs0 K (fr L t)=some (fr L' t)
 | [],L',h,t=>by simp only [fcS] at h;cases h;exact .inl rfl
 | u::ts,L',h,t=>by
  simp only [fcS] at h
  split at h
  · rename_i x hx
    split at h
    · rename_i y hy
      split at h
      · rename_i L2 h2
        cases h
        simp only [fr,put]
        split
        · rename_i hb
          have:=Nat.eq_of_beq_eq_true hb
          subst this
          rw [zhh hx]
          exact .inr hy
        · exact zmU h2 t
      · cases h
    · cases h
  · cases h
theorem zmV {id:Nat} {cs0:List AV} {K:List Nat} {M:List (Nat×Blk)}:∀ {ts:List Nat} {M':List (Nat×Blk)},fcM id cs0 K M ts=some M' →
 (∀ t,t∈ts→(mm M' t).isSome=true)∧∀ t y,mm M' t=some y→t∈ts∧∃ x,mm M t=some x∧fcB id cs0 K x=some y
 | [],M',h=>by simp only [fcM] at h;cases h;exact ⟨fun t ht=>(by cases ht),fun t y hy=>(by cases hy)⟩
 | u::ts,M',h=>by
  simp only [fcM] at h
  split at h
  · rename_i x hx
    split at h
    · rename_i y hy
      split at h
      · rename_i L2 h2
        cases h
        obtain ⟨k1,k2⟩:=zmV h2
        refine ⟨fun t ht=>?_,fun t z hz=>?_⟩
        · simp only [mm]
          by_cases e:t=u
          · subst e;rw [zah];rfl
          · rw [zae _ _ e]
            exact k1 t ((List.mem_cons.1 ht).resolve_left e)
        · simp only [mm] at hz
          by_cases e:t=u
          · subst e;rw [zah] at hz;cases hz
            exact ⟨List.mem_cons_self ..,x,hx,hy⟩
          · rw [zae _ _ e] at hz
            obtain ⟨e0,x2,e1,e2⟩:=k2 t z hz
            exact ⟨List.mem_cons_of_mem _ e0,x2,e1,e2⟩
      · cases h
    · cases h
  · cases h
section
variable {N:Nat} {C:Ctx} {L:List (Nat×AV)} {M:List (Nat×Blk)} {g:Nat} {R:Act→World→Prop}
theorem At.zkm (id:Nat) {cs0:List AV} {K ts:List Nat} {L':List (Nat×AV)} {M':List (Nat×Blk)} (hM:mm M id=some (.cells cs0)) (hcl:clL cs0=true) (hK:zbc K id=false)
 (hL:fcS id cs0 K L ts=some L') (hMK:fcM id cs0 K M K=some M')
 (hbor:∀ b,¬ C.bor b) (Kk:At N C L' M' g R) (hs:zde K C.savA=true:=by rfl):At N C L M g R:=by
 intro h ρ a w I
 obtain ⟨b0,us,ty,k1,k2,k3,k4⟩:=I.blk id _ hM
 obtain ⟨m1,m2⟩:=zmV hMK
 have hidK:id ∉ K:=fun hk=>by rw [zer hk] at hK;cases hK
 classical
 let h':Hp:=fun b=>if b=b0 then w.heap[b]? else h b
 let ρ':Rho:=fun i=>if i∈K then ρ i else none
 have hρ:∀ i,i∈K→ρ' i=ρ i:=fun i hi=>if_pos hi
 have hρ':∀ i li,ρ' i=some li→i∈K∧ρ i=some li:=fun i li hi=>by
  have:(if i∈K then ρ i else none)=some li:=hi
  split at this
  · exact ⟨by assumption,this⟩
  · cases this
 have hin:h' b0=w.heap[b0]? := if_pos rfl
 have hle:∀ b o,h b=some o→h' b=some o:=by
  intro b o hb
  show (if b=b0 then w.heap[b]? else h b)=some o
  split
  · exact I.hp b o hb
  · exact hb
 have hge:C.w0.heap.size≤b0:=(I.own id _ b0 k1 rfl).2.2.resolve_right (hbor b0)
 have hnew:∀ b o,h' b=some o→(b=b0∧w.heap[b]? = some o)∨h b=some o:=by
  intro b o hb
  have:(if b=b0 then w.heap[b]? else h b)=some o:=hb
  split at this
  · exact .inl ⟨by assumption,this⟩
  · exact .inr this
 have key:∀ off j,cellOf h' (Addr.add ⟨b0,off,none⟩ j)=us[off+j]? := by
  intro off j
  unfold cellOf
  rw [Addr.add_lit]
  simp only [hin,k2]
  simp
 have hr:∀ off r,zdv off cs0=some r→Rel h' ρ' (.rp r) (.pointer (some ⟨b0,off,none⟩)):=by
  intro off r hd
  obtain ⟨rfl,hlo⟩:=zcU hd
  refine .rp _ _ _ (fun j hj=>?_) (fun j y z hy hz=>?_)
  · rw [key]
    have:off+j<us.length:=by rw [k3];simp at hj;omega
    simp [this]
  · rw [key] at hz
    rw [List.getElem?_drop] at hy
    exact ((k4 _ y z hy hz).heap (Le.of hle)).zdu (zev hcl hy)
 refine Kk h' ρ' a w { I with slot:=fun t=>?_,sav:=⟨I.sav.1,fun i c x h1 h2=>((I.sav.2 i c x h1 h2).heap (Le.of hle)).forget hρ (za0 hs h1)⟩,hp:=fun b o hb=>?_,blk:=fun i y hy=>?_,dom:=fun i hi=>?_,own:=fun i li b q1 q2=>?_,inj:=fun i i' li li' b q1 q1' q2 q2'=>I.inj i i' li li' b (hρ' _ _ q1).2 (hρ' _ _ q1').2 q2 q2',ext:=fun b o hb=>hle b o (I.ext b o hb),old:=fun b o hb hlt=>?_,gst:=?_,dfr:=?_ }
 · rcases zmU hL t with e1|e1
   · rw [e1];exact .any _ _
   · exact Rel.fc (Le.of hle) hρ k1 hr (I.slot t) e1
 · rcases hnew b o hb with q|q
   · exact q.2
   · exact I.hp b o q
 · obtain ⟨hik,x,e1,e2⟩:=m2 i y hy
   have H:=I.blk i x e1
   have other:∀ z,zeh K z=true→zbJ h ρ i z w→zbJ h' ρ' i z w:=fun z ho Hz=>((Hz.keep (Le.of hle) rfl (zcM _) (fun _ _ _ _=>rfl)).forget hρ hik ho)
   cases x with
   | cells cs=>
    simp only [fcB] at e2
    split at e2
    · rename_i cs' hcs
      cases e2
      obtain ⟨b,vs,ty',z1,z2,z3,z4⟩:=H
      obtain ⟨l1,l2⟩:=zhG hcs
      refine ⟨b,vs,ty',(hρ i hik).trans z1,z2,by rw [z3,l1],fun j c u hc hu=>?_⟩
      obtain ⟨c0,y1,y2⟩:=l2 j c hc
      exact Rel.fc (Le.of hle) hρ k1 hr (z4 j c0 u y1 hu) y2
    · cases e2
   | _=>
    simp only [fcB] at e2
    split at e2
    · rename_i ho
      cases e2
      exact other _ ho H
    · cases e2
 · cases hq:ρ' i with
   | none=>rfl
   | some li=>
    have:=m1 i (hρ' i li hq).1
    rw [hi] at this;cases this
 · obtain ⟨q3,q4⟩:=hρ' i li q1
   obtain ⟨z1,z2,z3⟩:=I.own i li b q4 q2
   refine ⟨?_,z2,z3⟩
   show (if b=b0 then w.heap[b]? else h b)=none
   rw [if_neg (fun (hv:b=b0)=>hidK ((I.inj i id li _ b q4 k1 q2 (hv▸(rfl:LI.owns (.blk b0) b0)))▸q3))]
   exact z1
 · rcases hnew b o hb with q|q
   · rw [q.1] at hlt;exact absurd hlt (Nat.not_lt.2 hge)
   · exact I.old b o q hlt
 · obtain ⟨X,x1,x2,x3⟩:=I.gst
   refine ⟨X,fun b ⟨i,li,q1,q2⟩=>x1 b ⟨i,li,(hρ' i li q1).2,q2⟩,fun b o hb=>?_,x3⟩
   rcases hnew b o hb with q|q
   · exact .inr (x1 b ⟨id,_,k1,q.1▸rfl⟩)
   · exact x2 b o q
 · obtain ⟨Ds,hd1,hd2,hd3⟩:=I.dfr
   exact ⟨Ds,hd1,hd2,fun D hD=>⟨hle _ _ (hd3 D hD).1,(hd3 D hD).2⟩⟩
end
theorem Sim.zop {f:Fn} {fs cs:List AV} (h:(clL fs && clL cs)=true):Sim (.fn f fs cs) (.clo f fs cs):=by
 intro h' ρ v H
 exact .clo _ _ _ _ _ (H.zdu (by simpa [AV.cl] using h))
end Go.Av
end
/- Maps of owned slices: one of these is taken out, and put back; the map alone is only read; then all of it. A map is only read from now on. -/
section
set_option linter.all false
namespace Go.Av
open Go.Sp
section
variable {N:Nat} {C:Ctx} {h:Hp} {ρ:Rho} {F:Fr} {M:Mm} {g:Nat} {a:Act} {w:World}
open Classical in
noncomputable def frzHp (h:Hp) (S:Nat→Prop) (w:World):Hp:=fun b=>if S b then w.heap[b]? else h b
theorem zhe (I:InvH N C h ρ F M g a w) (S:Nat→Prop):∀ b o,h b=some o→frzHp h S w b=some o:=by
 intro b o hb
 unfold frzHp
 split
 · exact I.hp b o hb
 · exact hb
theorem zkl {S:Nat→Prop} {b:Nat} (hb:S b):frzHp h S w b=w.heap[b]? := if_pos hb
theorem zgS {S:Nat→Prop} {b:Nat} {o:Obj} (hb:frzHp h S w b=some o):(S b∧w.heap[b]? = some o)∨h b=some o:=by
 unfold frzHp at hb
 split at hb
 · exact .inl ⟨by assumption,hb⟩
 · exact .inr hb
theorem InvH.zhE (I:InvH N C h ρ F M g a w) {id id2:Nat} {li0:LI} {K:List Nat} {S:Nat→Prop} {F':Fr} {M':Mm} {ρ':Rho} (k1:ρ id=some li0) (hidK:id ∉ K) (hid2:id2 ∉ K) (hS:∀ b,S b→li0.owns b) (hbor:∀ b,¬ C.bor b) (hs:zde K C.savA=true)
 (hρ:∀ i,i∈K→ρ' i=ρ i) (hρ':∀ i li,ρ' i=some li→(i∈K∧ρ i=some li)∨(i=id2∧∀ b,li.owns b→li0.owns b∧¬ S b))
 (hF:∀ t,Rel (frzHp h S w) ρ' (F' t) (a.tmps.getD t undef)) (hB:∀ i y,M' i=some y→zbJ (frzHp h S w) ρ' i y w) (hD:∀ i,M' i=none→ρ' i=none):InvH N C (frzHp h S w) ρ' F' M' g a w:=by
 have hle:=zhe I S
 refine { I with slot:=hF,sav:=⟨I.sav.1,fun i c x h1 h2=>((I.sav.2 i c x h1 h2).heap (Le.of hle)).forget hρ (za0 hs h1)⟩,hp:=fun b o hb=>?_,blk:=hB,dom:=hD,own:=fun i li b q1 q2=>?_,inj:=fun i i' li li' b q1 q1' q2 q2'=>?_,ext:=fun b o hb=>hle b o (I.ext b o hb),old:=fun b o hb hlt=>?_,gst:=?_,dfr:=?_ }
 · rcases zgS hb with q|q
   · exact q.2
   · exact I.hp b o q
 · have none_of:h b=none→¬ S b→frzHp h S w b=none:=fun h1 h2=>by unfold frzHp;rw [if_neg h2];exact h1
   rcases hρ' i li q1 with ⟨q3,q4⟩|⟨q3,q4⟩
   · obtain ⟨z1,z2,z3⟩:=I.own i li b q4 q2
     exact ⟨none_of z1 (fun hv=>hidK ((I.inj i id li _ b q4 k1 q2 (hS b hv))▸q3)),z2,z3⟩
   · obtain ⟨z1,z2,z3⟩:=I.own id li0 b k1 (q4 b q2).1
     exact ⟨none_of z1 (q4 b q2).2,z2,z3⟩
 · rcases hρ' i li q1 with ⟨q3,q4⟩|⟨q3,q4⟩ <;> rcases hρ' i' li' q1' with ⟨q3',q4'⟩|⟨q3',q4'⟩
   · exact I.inj i i' li li' b q4 q4' q2 q2'
   · exact absurd ((I.inj i id li li0 b q4 k1 q2 (q4' b q2').1)▸q3) hidK
   · exact absurd ((I.inj i' id li' li0 b q4' k1 q2' (q4 b q2).1)▸q3') hidK
   · rw [q3,q3']
 · rcases zgS hb with q|q
   · exact absurd hlt (Nat.not_lt.2 ((I.own id _ b k1 (hS b q.1)).2.2.resolve_right (hbor b)))
   · exact I.old b o q hlt
 · obtain ⟨X,x1,x2,x3⟩:=I.gst
   refine ⟨X,fun b ⟨i,li,q1,q2⟩=>?_,fun b o hb=>?_,x3⟩
   · rcases hρ' i li q1 with ⟨q3,q4⟩|⟨q3,q4⟩
     · exact x1 b ⟨i,li,q4,q2⟩
     · exact x1 b ⟨id,li0,k1,(q4 b q2).1⟩
   · rcases zgS hb with q|q
     · exact .inr (x1 b ⟨id,_,k1,hS b q.1⟩)
     · exact x2 b o q
 · obtain ⟨Ds,hd1,hd2,hd3⟩:=I.dfr
   exact ⟨Ds,hd1,hd2,fun D hD=>⟨hle _ _ (hd3 D hD).1,(hd3 D hD).2⟩⟩
theorem zbJ.frz (I:InvH N C h ρ F M g a w) {S:Nat→Prop} {K:List Nat} {ρ':Rho} (hρ:∀ i,i∈K→ρ' i=ρ i) {i:Nat} {z:Blk} (hik:i∈K) (ho:zeh K z=true) (Hz:zbJ h ρ i z w):zbJ (frzHp h S w) ρ' i z w:=
 (Hz.keep (Le.of (zhe I S)) rfl (zcM _) (fun _ _ _ _=>rfl)).forget hρ hik ho
end
mutual
def fm (id:Nat) (r:AV) (K:List Nat):AV→Option AV
 | .mp i=>match Nat.beq i id with
  | true=>some r
  | false=>match zbc K i with
   | true=>some (.mp i)
   | false=>none
 | .agg cs=>match fmL id r K cs with
  | some cs'=>some (.agg cs')
  | none=>none
 | .tup cs=>match fmL id r K cs with
  | some cs'=>some (.tup cs')
  | none=>none
 | v=>match zay K v with
  | true=>some v
  | false=>none
def fmL (id:Nat) (r:AV) (K:List Nat):List AV→Option (List AV)
 | []=>some []
 | c::cs=>match fm id r K c with
  | some c'=>match fmL id r K cs with
   | some cs'=>some (c'::cs')
   | none=>none
  | none=>none
end
theorem zpr {id:Nat} {r:AV} {K:List Nat} {x y:AV} (h:fm id r K x=some y) (h1:∀ i,x ≠ .mp i) (h2:∀ cs,x ≠ .agg cs) (h3:∀ cs,x ≠ .tup cs):zay K x=true∧y=x:=by
 cases x <;> first|exact absurd rfl (h1 _)|exact absurd rfl (h2 _)|exact absurd rfl (h3 _)|(simp only [fm] at h;split at h <;> cases h;exact ⟨by assumption,rfl⟩)
theorem zko {id:Nat} {r:AV} {K:List Nat}:∀ {cs cs':List AV},fmL id r K cs=some cs'→cs'.length=cs.length ∧
 ∀ (i:Nat) (c':AV),cs'[i]? = some c'→∃ c,cs[i]? = some c∧fm id r K c=some c'
 | [],cs',h=>by
  simp only [fmL] at h;cases h
  exact ⟨rfl,fun i c' hc=>(by simp at hc)⟩
 | c::cs,cs',h=>by
  simp only [fmL] at h
  split at h
  · rename_i d hd
    split at h
    · rename_i ds hds
      cases h
      obtain ⟨h1,h2⟩:=zko hds
      refine ⟨by simp [h1],fun i c' hc=>?_⟩
      cases i with
      | zero=>simp at hc;subst hc;exact ⟨c,rfl,hd⟩
      | succ i=>simpa using h2 i c' (by simpa using hc)
    · cases h
  · cases h
theorem Rel.fm {h h':Hp} {ρ ρ':Rho} {id b0:Nat} {r:AV} {K:List Nat} (hle:Le h h') (hρ:∀ i,i∈K→ρ' i=ρ i) {li0:LI} (hid:ρ id=some li0) (hb0:li0.mapb=some b0) (hr:Rel h' ρ' r (.map (some b0))) {x:AV} {v:Value} (H:Rel h ρ x v) :
 ∀ {y:AV},Go.Av.fm id r K x=some y→Rel h' ρ' y v:=by
 obtain ⟨h9,hh,H'⟩:∃ h9,h=h9∧Rel h9 ρ x v:=⟨h,rfl,H⟩
 clear H
 induction H' with
 | mp ρ i li b hb hm=>
  intro y hy
  simp only [Go.Av.fm] at hy
  split at hy
  · rename_i hi
    cases hy
    have:=Nat.eq_of_beq_eq_true hi
    subst this
    rw [hid] at hb;cases hb;rw [hb0] at hm;cases hm
    exact hr
  · split at hy
    · rename_i hk
      cases hy
      exact .mp _ _ _ _ ((hρ i (zaz hk)).trans hb) hm
    · cases hy
 | agg ρ cs vs hl hc ih=>
  intro y hy
  simp only [Go.Av.fm] at hy
  split at hy
  · rename_i cs' hcs
    cases hy
    obtain ⟨e1,e2⟩:=zko hcs
    refine .agg _ _ _ (by rw [hl,e1]) fun i c v h1 h2=>?_
    obtain ⟨c0,k1,k2⟩:=e2 i c h1
    exact ih i c0 v k1 h2 hρ hid hh k2
  · cases hy
 | tup ρ cs vs hl hc ih=>
  intro y hy
  simp only [Go.Av.fm] at hy
  split at hy
  · rename_i cs' hcs
    cases hy
    obtain ⟨e1,e2⟩:=zko hcs
    refine .tup _ _ _ (by rw [hl,e1]) fun i c v h1 h2=>?_
    obtain ⟨c0,k1,k2⟩:=e2 i c h1
    exact ih i c0 v k1 h2 hρ hid hh k2
  · cases hy
 | _=>
  intro y hy
  obtain ⟨ho,rfl⟩:=zpr hy (fun _ e=>by cases e) (fun _ e=>by cases e) (fun _ e=>by cases e)
  subst hh
  refine Rel.forget hρ (Rel.heap ?_ hle) ho
  first|(constructor <;> assumption)|(constructor;done)
def fmS (id:Nat) (r:AV) (K:List Nat) (L:List (Nat×AV)):List Nat→Option (List (Nat×AV))
 | []=>some []
 | t::ts=>match zgv L t with
  | some x=>match fm id r K x with
   | some y=>match fmS id r K L ts with
    | some L'=>some ((t,y)::L')
    | none=>none
   | none=>none
  | none=>none
theorem zkn {id:Nat} {r:AV} {K:List Nat} {L:List (Nat×AV)}:∀ {ts:List Nat} {L':List (Nat×AV)},fmS id r K L ts=some L' →
 ∀ t,fr L' t = .any∨fm id r K (fr L t)=some (fr L' t)
 | [],L',h,t=>by simp only [fmS] at h;cases h;exact .inl rfl
 | u::ts,L',h,t=>by
  simp only [fmS] at h
  split at h
  · rename_i x hx
    split at h
    · rename_i y hy
      split at h
      · rename_i L2 h2
        cases h
        simp only [fr,put]
        split
        · rename_i hb
          have:=Nat.eq_of_beq_eq_true hb
          subst this
          rw [zhh hx]
          exact .inr hy
        · exact zkn h2 t
      · cases h
    · cases h
  · cases h
def fmB (id:Nat) (r:AV) (K:List Nat):Blk→Option Blk
 | .cells cs=>match fmL id r K cs with
  | some cs'=>some (.cells cs')
  | none=>none
 | b=>match zeh K b with
  | true=>some b
  | false=>none
def fmM (id:Nat) (r:AV) (K:List Nat) (M:List (Nat×Blk)):List Nat→Option (List (Nat×Blk))
 | []=>some []
 | t::ts=>match mm M t with
  | some x=>match fmB id r K x with
   | some y=>match fmM id r K M ts with
    | some M'=>some ((t,y)::M')
    | none=>none
   | none=>none
  | none=>none
theorem zmT {id:Nat} {r:AV} {K:List Nat} {M:List (Nat×Blk)}:∀ {ts:List Nat} {M':List (Nat×Blk)},fmM id r K M ts=some M' →
 (∀ t,t∈ts→(mm M' t).isSome=true)∧∀ t y,mm M' t=some y→t∈ts∧∃ x,mm M t=some x∧fmB id r K x=some y
 | [],M',h=>by simp only [fmM] at h;cases h;exact ⟨fun t ht=>(by cases ht),fun t y hy=>(by cases hy)⟩
 | u::ts,M',h=>by
  simp only [fmM] at h
  split at h
  · rename_i x hx
    split at h
    · rename_i y hy
      split at h
      · rename_i L2 h2
        cases h
        obtain ⟨k1,k2⟩:=zmT h2
        refine ⟨fun t ht=>?_,fun t z hz=>?_⟩
        · simp only [mm]
          by_cases e:t=u
          · subst e;rw [zah];rfl
          · rw [zae _ _ e]
            exact k1 t ((List.mem_cons.1 ht).resolve_left e)
        · simp only [mm] at hz
          by_cases e:t=u
          · subst e;rw [zah] at hz;cases hz
            exact ⟨List.mem_cons_self ..,x,hx,hy⟩
          · rw [zae _ _ e] at hz
            obtain ⟨e0,x2,e1,e2⟩:=k2 t z hz
            exact ⟨List.mem_cons_of_mem _ e0,x2,e1,e2⟩
      · cases h
    · cases h
  · cases h
section
variable {N:Nat} {C:Ctx} {L:List (Nat×AV)} {M:List (Nat×Blk)} {g:Nat} {R:Act→World→Prop}
theorem zlp {ids:List Nat} {M:List (Nat×Blk)}:∀ {is:List Nat} {M':List (Nat×Blk)},zdE ids M is=some M'→∀ {i:Nat},i ∉ is→mm M' i=none:=by
 intro is
 induction is with
 | nil=>intro M' h i _;simp only [zdE] at h;cases h;rfl
 | cons s is ih=>
  intro M' h i hi
  simp only [zdE] at h
  split at h
  · cases h
  · split at h
    · split at h
      · rename_i r hr
        cases h
        simp only [mm]
        rw [zae _ _ (fun e=>hi (by rw [e];exact List.mem_cons_self ..))]
        exact ih hr (fun hm=>hi (List.mem_cons_of_mem _ hm))
      · cases h
    · cases h
theorem zfa {K:List Nat} {i:Nat} (h:zbc K i=false):i ∉ K:=fun hk=>by rw [zer hk] at h;cases h
theorem At.zl2 (id:Nat) {z:Value} {dom:Int→Bool} {e:Int→AV} {n:Nat} {K ts:List Nat} {L':List (Nat×AV)} {M':List (Nat×Blk)} (hM:mm M id=some (.map z dom e n)) (hK:zbc K id=false)
 (hL:fmS id (.rom z dom e n) K L ts=some L') (hMK:fmM id (.rom z dom e n) K M K=some M') (hbor:∀ b,¬ C.bor b) (Kk:At N C L' M' g R) (hs:zde K C.savA=true:=by rfl):At N C L M g R:=by
 intro h ρ a w I
 obtain ⟨b0,es,clock,ks,k1,k2,k3,k4,k5,k6,k7,k8,k9,kz,k10⟩:=I.blk id _ hM
 obtain ⟨m1,m2⟩:=zmT hMK
 have hidK:=zfa hK
 let ρ':Rho:=fun i=>if i∈K then ρ i else none
 have hρ:∀ i,i∈K→ρ' i=ρ i:=fun i hi=>if_pos hi
 have hρ':∀ i li,ρ' i=some li→i∈K∧ρ i=some li:=fun i li hi=>by
  have:(if i∈K then ρ i else none)=some li:=hi
  split at this
  · exact ⟨by assumption,this⟩
  · cases this
 have hle:=zhe I (fun b=>b=b0)
 have hr:Rel (frzHp h (fun b=>b=b0) w) ρ' (.rom z dom e n) (.map (some b0)):=
  .rom _ _ _ _ _ _ es clock ks ((zkl rfl).trans k2) k3 k4 k5 k6 k7 k8 k9 (fun k hd=>(kz k hd).heap (Le.of hle)) (fun i k x q1 q2=>(k10 i k x q1 q2).heap (Le.of hle))
 refine Kk _ ρ' a w (I.zhE (id2:=id) (S:=fun b=>b=b0) k1 hidK hidK (fun b (hb:b=b0)=>hb▸(rfl:LI.owns (.blk b0) b0)) hbor hs hρ (fun i li hi=>.inl (hρ' i li hi)) (fun t=>?_) (fun i y hy=>?_) (fun i hi=>?_))
 · rcases zkn hL t with e1|e1
   · rw [e1];exact .any _ _
   · exact Rel.fm (Le.of hle) hρ k1 rfl hr (I.slot t) e1
 · obtain ⟨hik,x,e1,e2⟩:=m2 i y hy
   have H:=I.blk i x e1
   cases x with
   | cells cs=>
    simp only [fmB] at e2
    split at e2
    · rename_i cs' hcs
      cases e2
      obtain ⟨b,vs,ty',z1,z2,z3,z4⟩:=H
      obtain ⟨l1,l2⟩:=zko hcs
      refine ⟨b,vs,ty',(hρ i hik).trans z1,z2,by rw [z3,l1],fun j c u hc hu=>?_⟩
      obtain ⟨c0,y1,y2⟩:=l2 j c hc
      exact Rel.fm (Le.of hle) hρ k1 rfl hr (z4 j c0 u y1 hu) y2
    · cases e2
   | _=>
    simp only [fmB] at e2
    split at e2
    · rename_i ho
      cases e2
      exact zbJ.frz I hρ hik ho H
    · cases e2
 · cases hq:ρ' i with
   | none=>rfl
   | some li=>
    have:=m1 i (hρ' i li hq).1
    rw [hi] at this;cases this
theorem At.zpn (id id3:Nat) (k:Int) {ty sz n:Nat} {dom:Int→Bool} {m:Int→Nat} {e:Int→Nat→List AV} (hM:mm M id=some (.gmap ty sz n dom m e none)) (h3:mm M id3=none) (hm0:dom k=false→m k=0)
 (K:At N C L ((id3,.buf ty sz (m k) (e k))::(id,.gmap ty sz n dom m e (some (k,.buf id3 (m k))))::M) g R):At N C L M g R:=by
 intro h ρ a w I
 obtain ⟨b,es,clock,ks,Rw,q1,q2,q3,q4,q5,q6,q7,q8,q9,q10,q11,q12,q13⟩:=I.blk id _ hM
 have hne:id≠id3:=by rintro rfl;rw [hM] at h3;cases h3
 have hρ3:=I.dom id3 h3
 obtain ⟨v3,hv3⟩:∃ v3:Value,(dom k=true∧Rw k=some (m k,v3))∨(dom k=false∧Rw k=none∧v3 = .slice none 0 0):=by
  cases hd:dom k with
  | true=>
   obtain ⟨i,hi,hik⟩:=List.getElem_of_mem ((q9 k).1 hd)
   have hie:i<es.length:=by omega
   have:=(q10 i k es[i] (by rw [List.getElem?_eq_getElem hi,hik]) (List.getElem?_eq_getElem hie)).2 (fun _ h=>by cases h)
   exact ⟨_,.inl ⟨rfl,this⟩⟩
  | false=>
   refine ⟨_,.inr ⟨rfl,?_,rfl⟩⟩
   cases hR:Rw k with
   | none=>rfl
   | some p=>obtain ⟨c,v⟩:=p;rw [(q12 k c v hR).1] at hd;cases hd
 let R':Int→Option (Nat×Value):=fun j=>if j=k then none else Rw j
 have hR':∀ j c v,R' j=some (c,v)→j≠k∧Rw j=some (c,v):=fun j c v hj=>by
  have:(if j=k then none else Rw j)=some (c,v):=hj
  split at this
  · cases this
  · exact ⟨by assumption,this⟩
 let ρ':Rho:=upd (upd ρ id (some (.rows (some b) R'))) id3 (some (.sl (m k) sz v3))
 have r1:ρ' id=some (.rows (some b) R'):=by show upd _ _ _ _=_;rw [zae _ _ hne,zah]
 have r3:ρ' id3=some (.sl (m k) sz v3):=zah _ _ _
 have ro:∀ i,¬ (i=id∨i=id3)→ρ' i=ρ i:=fun i hi=>by
  show upd _ _ _ _=_
  rw [zae _ _ (fun e=>hi (.inr e)),zae _ _ (fun e=>hi (.inl e))]
 have own3:∀ b',v3.ownBlock=some b'→Rw k=some (m k,v3):=fun b' hb'=>by
  rcases hv3 with ⟨_,h2⟩|⟨_,_,rfl⟩
  · exact h2
  · simp [Value.ownBlock] at hb'
 have hle:∀ i l,ρ i=some l→∃ l',ρ' i=some l'∧l.le l':=by
  intro i l hi
  by_cases e1:i=id
  · subst e1
    rw [q1] at hi;cases hi
    exact ⟨_,r1,.inr (.inr (.inr (.inr ⟨_,_,_,rfl,rfl⟩)))⟩
  · by_cases e3:i=id3
    · subst e3;rw [hρ3] at hi;cases hi
    · exact ⟨l,by rw [ro i (by simp [e1,e3])];exact hi,.inl rfl⟩
 have hcell:∀ u,(dom k=true→Rw k=some (m k,u))→(dom k=false→u = .slice none 0 0)→u=v3:=fun u h1 h2=>by
  rcases hv3 with ⟨hd,e⟩|⟨hd,_,rfl⟩
  · have:=h1 hd;rw [e] at this;cases this;rfl
  · exact h2 hd
 have hone3:v3.oneCell'=true:=by
  rcases hv3 with ⟨_,e⟩|⟨_,_,rfl⟩
  · exact (q13.row k _ _ e).2.1
  · rfl
 have hrel3:Rel h ρ' (.buf id3 (m k)) v3:=.buf _ _ _ _ _ _ _ r3 (Nat.le_refl _) hone3 (fun _=>rfl)
 refine K h ρ' a w (I.step (S:=fun i=>i=id∨i=id3) rfl rfl rfl (Nat.le_refl _) (fun _ _ _=>rfl) ro hle (fun _ _ h=>h) (fun _ _ h=>.inl h) (fun i hi=>?_) ?_ ?_ ?_ ?_)
 · simp only [not_or] at hi
   simp only [mm]
   rw [zae _ _ hi.2,zae _ _ hi.1]
 · rintro i (rfl|rfl) hM'
   · simp only [mm] at hM';rw [zae _ _ hne,zah] at hM';cases hM'
   · simp only [mm] at hM';rw [zah] at hM';cases hM'
 · rintro i y (rfl|rfl) hM'
   · simp only [mm] at hM';rw [zae _ _ hne,zah] at hM';cases hM'
     refine ⟨b,es,clock,ks,R',r1,q2,q3,q4,q5,q6,q7,q8,q9,fun j kk x hk hx=>⟨fun a' ha=>?_,fun ha=>?_⟩,fun kk a' ha=>?_,fun kk c v hR=>q12 kk c v (hR' kk c v hR).2,⟨fun kk c v hR=>q13.row kk c v (hR' kk c v hR).2,fun kk kk' c c' v v' b' h1 h2=>q13.dis kk kk' c c' v v' b' (hR' _ _ _ h1).2 (hR' _ _ _ h2).2⟩⟩
     · cases ha
       have:=(q10 j k x hk hx).2 (fun _ h=>by cases h)
       rw [hcell x.val (fun _=>this) (fun hd=>by rw [(q9 k).2 (List.mem_of_getElem? hk)] at hd;cases hd)]
       exact hrel3
     · have hkk:kk≠k:=fun e=>ha (.buf id3 (m k)) (by rw [e])
       show (if kk=k then none else Rw kk)=_
       rw [if_neg hkk]
       exact (q10 j kk x hk hx).2 (fun _ h=>by cases h)
     · cases ha
       refine ⟨if_pos rfl,fun hd=>?_⟩
       rw [hcell (.slice none 0 0) (fun hd'=>by rw [hd] at hd';cases hd') (fun _=>rfl)]
       exact hrel3
   · simp only [mm] at hM';rw [zah] at hM';cases hM'
     rcases hv3 with ⟨_,e3⟩|⟨hd,_,rfl⟩
     · obtain ⟨_,_,xs,z1,z2,z3,z4⟩:=q13.row k _ _ e3
       exact ⟨v3,xs,r3,z1,z2,z3,z4⟩
     · have h0:=hm0 hd
       exact ⟨.slice none 0 0,[],r3,⟨by rw [h0];simp,.inl ⟨rfl,h0⟩⟩,fun j hj=>(by omega),fun x hx=>(by cases hx),fun j q c x hj=>(by omega)⟩
 · rintro i l b' (rfl|rfl) h1 h2
   · rw [r1] at h1;cases h1
     refine .inl ⟨i,_,.inl rfl,q1,?_⟩
     rcases h2 with h2|⟨kk,c,v,hR,h2⟩
     · exact .inl h2
     · exact .inr ⟨kk,c,v,(hR' _ _ _ hR).2,h2⟩
   · rw [r3] at h1;cases h1
     exact .inl ⟨id,_,.inl rfl,q1,.inr ⟨k,_,_,own3 b' h2,h2⟩⟩
 · have cross:∀ b',(LI.rows (some b) R').owns b'→v3.ownBlock=some b'→False:=by
    intro b' h1 h2
    have e3:=own3 b' h2
    rcases h1 with h1|⟨kk,c,v,hR,h1⟩
    · cases h1;exact (q12 k _ _ e3).2 h2
    · exact (hR' _ _ _ hR).1 (q13.dis kk k _ _ _ _ b' (hR' _ _ _ hR).2 e3 h1 h2)
   rintro i i' l l' b' (rfl|rfl) (rfl|rfl) h1 h1' h2 h2'
   · rfl
   · rw [r1] at h1;cases h1;rw [r3] at h1';cases h1';exact (cross b' h2 h2').elim
   · rw [r3] at h1;cases h1;rw [r1] at h1';cases h1';exact (cross b' h2' h2).elim
   · rfl
theorem At.zp7 (id id3:Nat) (k:Int) {ty sz n c:Nat} {dom:Int→Bool} {m:Int→Nat} {e:Int→Nat→List AV} {e3:Nat→List AV} (hM:mm M id=some (.gmap ty sz n dom m e (some (k,.buf id3 c)))) (h3:mm M id3=some (.buf ty sz c e3)) (hdk:dom k=true)
 (K:At N C L ((id3,.dead)::(id,.gmap ty sz n dom (fun j=>if j=k then c else m j) (fun j=>if j=k then e3 else e j) none)::M) g R):At N C L M g R:=by
 intro h ρ a w I
 obtain ⟨b,es,clock,ks,Rw,q1,q2,q3,q4,q5,q6,q7,q8,q9,q10,q11,q12,q13⟩:=I.blk id _ hM
 obtain ⟨v,xs,p1,p2,p3,p4,p5⟩:=I.blk id3 _ h3
 have hne:id≠id3:=by rintro rfl;rw [hM] at h3;cases h3
 have hRk:=(q11 k _ rfl).1
 let R':Int→Option (Nat×Value):=fun j=>if j=k then some (c,v) else Rw j
 have hR':∀ j c' v',R' j=some (c',v')→(j=k∧c'=c∧v'=v)∨(j≠k∧Rw j=some (c',v')):=fun j c' v' hj=>by
  have:(if j=k then some (c,v) else Rw j)=some (c',v'):=hj
  split at this
  · cases this;exact .inl ⟨by assumption,rfl,rfl⟩
  · exact .inr ⟨by assumption,this⟩
 let ρ':Rho:=upd (upd ρ id (some (.rows (some b) R'))) id3 (some (.sl (c+1) sz (.slice none 0 0)))
 have r1:ρ' id=some (.rows (some b) R'):=by show upd _ _ _ _=_;rw [zae _ _ hne,zah]
 have r3:ρ' id3=some (.sl (c+1) sz (.slice none 0 0)):=zah _ _ _
 have ro:∀ i,¬ (i=id∨i=id3)→ρ' i=ρ i:=fun i hi=>by
  show upd _ _ _ _=_
  rw [zae _ _ (fun e=>hi (.inr e)),zae _ _ (fun e=>hi (.inl e))]
 have hle:∀ i l,ρ i=some l→∃ l',ρ' i=some l'∧l.le l':=by
  intro i l hi
  by_cases e1:i=id
  · subst e1
    rw [q1] at hi;cases hi
    exact ⟨_,r1,.inr (.inr (.inr (.inr ⟨_,_,_,rfl,rfl⟩)))⟩
  · by_cases e3:i=id3
    · subst e3;rw [p1] at hi;cases hi
      exact ⟨_,r3,.inr (.inl ⟨_,_,_,_,_,rfl,rfl,Nat.lt_succ_self _⟩)⟩
    · exact ⟨l,by rw [ro i (by simp [e1,e3])];exact hi,.inl rfl⟩
 have hself:∀ u,Rel h ρ (.buf id3 c) u→u=v:=fun u hu=>by
  cases hu with
  | buf _ _ _ n2 sz2 _ v' hb hl h1 he=>rw [p1] at hb;cases hb;exact he rfl
 have hapart:∀ b',(LI.rows (some b) Rw).owns b'→v.ownBlock=some b'→False:=fun b' h1 h2=>hne (I.inj id id3 _ _ b' q1 p1 h1 h2)
 refine K h ρ' a w (I.step (S:=fun i=>i=id∨i=id3) rfl rfl rfl (Nat.le_refl _) (fun _ _ _=>rfl) ro hle (fun _ _ h=>h) (fun _ _ h=>.inl h) (fun i hi=>?_) ?_ ?_ ?_ ?_)
 · simp only [not_or] at hi
   simp only [mm]
   rw [zae _ _ hi.2,zae _ _ hi.1]
 · rintro i (rfl|rfl) hM'
   · simp only [mm] at hM';rw [zae _ _ hne,zah] at hM';cases hM'
   · simp only [mm] at hM';rw [zah] at hM';cases hM'
 · rintro i y (rfl|rfl) hM'
   · simp only [mm] at hM';rw [zae _ _ hne,zah] at hM';cases hM'
     refine ⟨b,es,clock,ks,R',r1,q2,q3,q4,q5,q6,q7,q8,q9,fun j kk x hk hx=>⟨fun a' ha=>(by cases ha),fun _=>?_⟩,fun kk a' ha=>(by cases ha),fun kk c' v' hR=>?_,⟨fun kk c' v' hR=>?_,fun kk kk' c1 c2 v1 v2 b' h1 h2 b1 b2=>?_⟩⟩
     · by_cases e1:kk=k
       · subst e1
         rw [hself _ ((q10 j kk x hk hx).1 _ rfl)]
         show (if kk=kk then some (c,v) else Rw kk)=_
         simp
       · show (if kk=k then some (c,v) else Rw kk)=_
         rw [if_neg e1]
         simp only [if_neg e1]
         exact (q10 j kk x hk hx).2 (fun a' ha=>by cases ha;exact e1 rfl)
     · rcases hR' kk c' v' hR with ⟨rfl,rfl,rfl⟩|⟨_,hR⟩
       · exact ⟨hdk,fun hb=>hapart b (.inl rfl) hb⟩
       · exact q12 kk c' v' hR
     · rcases hR' kk c' v' hR with ⟨rfl,rfl,rfl⟩|⟨hn,hR⟩
       · simp only [if_pos]
         refine ⟨trivial,ze7 p2,xs,p2,p3,p4,p5⟩
       · simp only [if_neg hn]
         exact q13.row kk c' v' hR
     · rcases hR' kk c1 v1 h1 with ⟨rfl,rfl,rfl⟩|⟨hn,hR⟩ <;> rcases hR' kk' c2 v2 h2 with ⟨rfl,rfl,rfl⟩|⟨hn',hR2⟩
       · rfl
       · exact (hapart b' (.inr ⟨kk',c2,v2,hR2,b2⟩) b1).elim
       · exact (hapart b' (.inr ⟨kk,c1,v1,hR,b1⟩) b2).elim
       · exact q13.dis kk kk' c1 c2 v1 v2 b' hR hR2 b1 b2
   · simp only [mm] at hM';rw [zah] at hM';cases hM'
     exact ⟨_,_,r3⟩
 · rintro i l b' (rfl|rfl) h1 h2
   · rw [r1] at h1;cases h1
     rcases h2 with h2|⟨kk,c',v',hR,h2⟩
     · exact .inl ⟨i,_,.inl rfl,q1,.inl h2⟩
     · rcases hR' kk c' v' hR with ⟨rfl,rfl,rfl⟩|⟨_,hR⟩
       · exact .inl ⟨id3,_,.inr rfl,p1,h2⟩
       · exact .inl ⟨i,_,.inl rfl,q1,.inr ⟨kk,c',v',hR,h2⟩⟩
   · rw [r3] at h1;cases h1;simp [LI.owns,Value.ownBlock] at h2
 · rintro i i' l l' b' (rfl|rfl) (rfl|rfl) h1 h1' h2 h2'
   · rfl
   · rw [r3] at h1';cases h1';simp [LI.owns,Value.ownBlock] at h2'
   · rw [r3] at h1;cases h1;simp [LI.owns,Value.ownBlock] at h2
   · rfl
theorem At.zpp (id:Nat) {ty sz n:Nat} {dom:Int→Bool} {m:Int→Nat} {e:Int→Nat→List AV} {K ts:List Nat} {L':(Int→Value)→List (Nat×AV)} {M':List (Nat×Blk)} (hM:mm M id=some (.gmap ty sz n dom m e none)) (hK:zbc K id=false)
 (hL:∀ hd:Int→Value,fmS id (.rom (.slice none 0 0) dom (fun k=>.raw (hd k)) n) K L ts=some (L' hd)) (hMK:zdE K M K=some M') (hbor:∀ b,¬ C.bor b)
 (Kk:∀ hd:Int→Value,At N C (L' hd) ((id,.rows ty sz hd dom m e none)::M') g R) (hs:zde K C.savA=true:=by rfl):At N C L M g R:=by
 intro h ρ a w I
 obtain ⟨b0,es,clock,ks,Rw,q1,q2,q3,q4,q5,q6,q7,q8,q9,q10,q11,q12,q13⟩:=I.blk id _ hM
 obtain ⟨m1,m2⟩:=zgp hMK
 have hidK:=zfa hK
 let ρ':Rho:=fun i=>if i∈K then ρ i else if i=id then some (.rows none Rw) else none
 have hρ:∀ i,i∈K→ρ' i=ρ i:=fun i hi=>if_pos hi
 have hρid:ρ' id=some (.rows none Rw):=by show (if id∈K then ρ id else if id=id then some (.rows none Rw) else none)=_;rw [if_neg hidK,if_pos rfl]
 have hρ':∀ i li,ρ' i=some li→(i∈K∧ρ i=some li)∨(i=id∧li = .rows none Rw):=fun i li hi=>by
  have:(if i∈K then ρ i else if i=id then some (.rows none Rw) else none)=some li:=hi
  split at this
  · exact .inl ⟨by assumption,this⟩
  · split at this
    · cases this;exact .inr ⟨by assumption,rfl⟩
    · cases this
 have hle:=zhe I (fun b=>b=b0)
 let hd:Int→Value:=fun k=>match Rw k with
  | some (_,v)=>v
  | none=>.slice none 0 0
 have hdS:∀ k c v,Rw k=some (c,v)→hd k=v:=fun k c v hk=>by show (match Rw k with|some (_,v)=>v|none=>.slice none 0 0)=v;rw [hk]
 have hdN:∀ k,Rw k=none→hd k = .slice none 0 0:=fun k hk=>by show (match Rw k with|some (_,v)=>v|none=>.slice none 0 0)=_;rw [hk]
 have hRn:∀ k,dom k=false→Rw k=none:=fun k hk=>by
  cases hR:Rw k with
  | none=>rfl
  | some p=>obtain ⟨c,v⟩:=p;rw [(q12 k c v hR).1] at hk;cases hk
 have hRs:∀ k,dom k=true→Rw k=some (m k,hd k):=fun k hk=>by
  obtain ⟨i,hi,hik⟩:=List.getElem_of_mem ((q9 k).1 hk)
  have hie:i<es.length:=by omega
  have:=(q10 i k es[i] (by rw [List.getElem?_eq_getElem hi,hik]) (List.getElem?_eq_getElem hie)).2 (fun _ h=>by cases h)
  rw [this,hdS k _ _ this]
 have hr:Rel (frzHp h (fun b=>b=b0) w) ρ' (.rom (.slice none 0 0) dom (fun k=>.raw (hd k)) n) (.map (some b0)):=
  .rom _ _ _ _ _ _ es clock ks ((zkl rfl).trans q2) q3 q4 q5 q6 q7 q8 q9 (fun k hk=>by rw [hdN k (hRn k hk)];exact .raw _ _) (fun i k x e1 e2=>by
   have:=(q10 i k x e1 e2).2 (fun _ h=>by cases h)
   rw [hdS k _ _ this];exact .raw _ _)
 refine Kk hd _ ρ' a w (I.zhE (id2:=id) (S:=fun b=>b=b0) q1 hidK hidK (fun b (hb:b=b0)=>.inl (by rw [hb])) hbor hs hρ (fun i li hi=>?_) (fun t=>?_) (fun i y hy=>?_) (fun i hi=>?_))
 · rcases hρ' i li hi with h1|⟨h1,rfl⟩
   · exact .inl h1
   · refine .inr ⟨h1,fun b hb=>?_⟩
     rcases hb with hb|⟨k,c,v,hR,hb⟩
     · cases hb
     · exact ⟨.inr ⟨k,c,v,hR,hb⟩,fun e=>(q12 k c v hR).2 (e▸hb)⟩
 · rcases zkn (hL hd) t with e1|e1
   · rw [e1];exact .any _ _
   · exact Rel.fm (Le.of hle) hρ q1 rfl hr (I.slot t) e1
 · simp only [mm] at hy
   by_cases e1:i=id
   · subst e1;rw [zah] at hy;cases hy
     refine ⟨Rw,hρid,fun k _=>?_,fun k a' ha=>(by cases ha),q13.keep (Le.of hle) (fun _ _ _ _ _ _=>rfl)⟩
     cases hk:dom k with
     | true=>rw [if_pos rfl];exact hRs k hk
     | false=>rw [if_neg (by simp)];exact hRn k hk
   · rw [zae _ _ e1] at hy
     obtain ⟨h1,h2⟩:=m1 i y hy
     have hik:i∈K:=by
      by_cases hk:i∈K
      · exact hk
      · exact absurd hy (by rw [zlp hMK hk];simp)
     exact zbJ.frz I hρ hik h2 (I.blk i y h1)
 · simp only [mm] at hi
   by_cases e1:i=id
   · subst e1;rw [zah] at hi;cases hi
   · rw [zae _ _ e1] at hi
     cases hq:ρ' i with
     | none=>rfl
     | some li=>
      rcases hρ' i li hq with ⟨h1,_⟩|⟨h1,_⟩
      · have:=m2 i h1
        rw [hi] at this;cases this
      · exact absurd h1 e1
theorem At.zo6 (id id3 t:Nat) (k:Int) {ty sz:Nat} {hd:Int→Value} {dom:Int→Bool} {m:Int→Nat} {e:Int→Nat→List AV} (hM:mm M id=some (.rows ty sz hd dom m e none)) (h3:mm M id3=none) (ht:fr L t = .raw (hd k)) (hdk:dom k=true)
 (K:At N C ((t,.buf id3 (m k))::L) ((id3,.buf ty sz (m k) (e k))::(id,.rows ty sz hd dom m e (some (k,.buf id3 (m k))))::M) g R):At N C L M g R:=by
 intro h ρ a w I
 obtain ⟨Rw,q1,q2,q3,q4⟩:=I.blk id _ hM
 have hne:id≠id3:=by rintro rfl;rw [hM] at h3;cases h3
 have hρ3:=I.dom id3 h3
 have hRk:Rw k=some (m k,hd k):=by rw [q2 k (fun _ h=>by cases h),if_pos hdk]
 let R':Int→Option (Nat×Value):=fun j=>if j=k then none else Rw j
 have hR':∀ j c v,R' j=some (c,v)→j≠k∧Rw j=some (c,v):=fun j c v hj=>by
  have:(if j=k then none else Rw j)=some (c,v):=hj
  split at this
  · cases this
  · exact ⟨by assumption,this⟩
 let ρ':Rho:=upd (upd ρ id (some (.rows none R'))) id3 (some (.sl (m k) sz (hd k)))
 have r1:ρ' id=some (.rows none R'):=by show upd _ _ _ _=_;rw [zae _ _ hne,zah]
 have r3:ρ' id3=some (.sl (m k) sz (hd k)):=zah _ _ _
 have ro:∀ i,¬ (i=id∨i=id3)→ρ' i=ρ i:=fun i hi=>by
  show upd _ _ _ _=_
  rw [zae _ _ (fun e=>hi (.inr e)),zae _ _ (fun e=>hi (.inl e))]
 have hle:∀ i l,ρ i=some l→∃ l',ρ' i=some l'∧l.le l':=by
  intro i l hi
  by_cases e1:i=id
  · subst e1
    rw [q1] at hi;cases hi
    exact ⟨_,r1,.inr (.inr (.inr (.inr ⟨_,_,_,rfl,rfl⟩)))⟩
  · by_cases e3:i=id3
    · subst e3;rw [hρ3] at hi;cases hi
    · exact ⟨l,by rw [ro i (by simp [e1,e3])];exact hi,.inl rfl⟩
 obtain ⟨_,hone,xs,z1,z2,z3,z4⟩:=q4.row k _ _ hRk
 have hrel3:Rel h ρ' (.buf id3 (m k)) (hd k):=.buf _ _ _ _ _ _ _ r3 (Nat.le_refl _) hone (fun _=>rfl)
 have I':InvH N C h ρ' (fr L) (mm ((id3,.buf ty sz (m k) (e k))::(id,.rows ty sz hd dom m e (some (k,.buf id3 (m k))))::M)) g a w:=by
  refine I.step (S:=fun i=>i=id∨i=id3) rfl rfl rfl (Nat.le_refl _) (fun _ _ _=>rfl) ro hle (fun _ _ h=>h) (fun _ _ h=>.inl h) (fun i hi=>?_) ?_ ?_ ?_ ?_
  · simp only [not_or] at hi
    simp only [mm]
    rw [zae _ _ hi.2,zae _ _ hi.1]
  · rintro i (rfl|rfl) hM'
    · simp only [mm] at hM';rw [zae _ _ hne,zah] at hM';cases hM'
    · simp only [mm] at hM';rw [zah] at hM';cases hM'
  · rintro i y (rfl|rfl) hM'
    · simp only [mm] at hM';rw [zae _ _ hne,zah] at hM';cases hM'
      refine ⟨R',r1,fun kk ha=>?_,fun kk a' ha=>?_,⟨fun kk c v hR=>q4.row kk c v (hR' kk c v hR).2,fun kk kk' c c' v v' b' h1 h2=>q4.dis kk kk' c c' v v' b' (hR' _ _ _ h1).2 (hR' _ _ _ h2).2⟩⟩
      · have hkk:kk≠k:=fun e=>ha (.buf id3 (m k)) (by rw [e])
        show (if kk=k then none else Rw kk)=_
        rw [if_neg hkk]
        exact q2 kk (fun _ h=>by cases h)
      · cases ha
        exact ⟨if_pos rfl,hrel3⟩
    · simp only [mm] at hM';rw [zah] at hM';cases hM'
      exact ⟨hd k,xs,r3,z1,z2,z3,z4⟩
  · rintro i l b' (rfl|rfl) h1 h2
    · rw [r1] at h1;cases h1
      refine .inl ⟨i,_,.inl rfl,q1,?_⟩
      rcases h2 with h2|⟨kk,c,v,hR,h2⟩
      · cases h2
      · exact .inr ⟨kk,c,v,(hR' _ _ _ hR).2,h2⟩
    · rw [r3] at h1;cases h1
      exact .inl ⟨id,_,.inl rfl,q1,.inr ⟨k,_,_,hRk,h2⟩⟩
  · have cross:∀ b',(LI.rows none R').owns b'→(hd k).ownBlock=some b'→False:=by
     intro b' h1 h2
     rcases h1 with h1|⟨kk,c,v,hR,h1⟩
     · cases h1
     · exact (hR' _ _ _ hR).1 (q4.dis kk k _ _ _ _ b' (hR' _ _ _ hR).2 hRk h1 h2)
    rintro i i' l l' b' (rfl|rfl) (rfl|rfl) h1 h1' h2 h2'
    · rfl
    · rw [r1] at h1;cases h1;rw [r3] at h1';cases h1';exact (cross b' h2 h2').elim
    · rw [r3] at h1;cases h1;rw [r1] at h1';cases h1';exact (cross b' h2' h2).elim
    · rfl
 refine K h ρ' a w { I' with slot:=fun u=>?_ }
 simp only [fr,put]
 split
 · rename_i hb
   have:=Nat.eq_of_beq_eq_true hb
   subst this
   have hv:=I.slot u
   rw [ht] at hv
   generalize a.tmps.getD u undef=x at hv
   cases hv
   exact hrel3
 · exact I'.slot u
theorem At.zpS (id id3:Nat) (k:Int) {ty sz c:Nat} {hd:Int→Value} {dom:Int→Bool} {m:Int→Nat} {e:Int→Nat→List AV} {e3:Nat→List AV} (hM:mm M id=some (.rows ty sz hd dom m e (some (k,.buf id3 (m k))))) (h3:mm M id3=some (.buf ty sz c e3)) (hc:c=m k) (hdk:dom k=true)
 (K:At N C L ((id3,.dead)::(id,.rows ty sz hd dom m (fun j=>if j=k then e3 else e j) none)::M) g R):At N C L M g R:=by
 subst hc
 intro h ρ a w I
 obtain ⟨Rw,q1,q2,q3,q4⟩:=I.blk id _ hM
 obtain ⟨v,xs,p1,p2,p3,p4,p5⟩:=I.blk id3 _ h3
 have hne:id≠id3:=by rintro rfl;rw [hM] at h3;cases h3
 obtain ⟨hRk,hrelk⟩:=q3 k _ rfl
 have hv:hd k=v:=by
  generalize hd k=u at hrelk
  cases hrelk with
  | buf _ _ _ n2 sz2 _ v' hb hl h1 he=>rw [p1] at hb;cases hb;exact he rfl
 let R':Int→Option (Nat×Value):=fun j=>if j=k then some (m k,hd k) else Rw j
 have hR':∀ j c' v',R' j=some (c',v')→(j=k∧c'=m k∧v'=hd k)∨(j≠k∧Rw j=some (c',v')):=fun j c' v' hj=>by
  have:(if j=k then some (m k,hd k) else Rw j)=some (c',v'):=hj
  split at this
  · cases this;exact .inl ⟨by assumption,rfl,rfl⟩
  · exact .inr ⟨by assumption,this⟩
 let ρ':Rho:=upd (upd ρ id (some (.rows none R'))) id3 (some (.sl (m k+1) sz (.slice none 0 0)))
 have r1:ρ' id=some (.rows none R'):=by show upd _ _ _ _=_;rw [zae _ _ hne,zah]
 have r3:ρ' id3=some (.sl (m k+1) sz (.slice none 0 0)):=zah _ _ _
 have ro:∀ i,¬ (i=id∨i=id3)→ρ' i=ρ i:=fun i hi=>by
  show upd _ _ _ _=_
  rw [zae _ _ (fun e=>hi (.inr e)),zae _ _ (fun e=>hi (.inl e))]
 have hle:∀ i l,ρ i=some l→∃ l',ρ' i=some l'∧l.le l':=by
  intro i l hi
  by_cases e1:i=id
  · subst e1
    rw [q1] at hi;cases hi
    exact ⟨_,r1,.inr (.inr (.inr (.inr ⟨_,_,_,rfl,rfl⟩)))⟩
  · by_cases e3:i=id3
    · subst e3;rw [p1] at hi;cases hi
      exact ⟨_,r3,.inr (.inl ⟨_,_,_,_,_,rfl,rfl,Nat.lt_succ_self _⟩)⟩
    · exact ⟨l,by rw [ro i (by simp [e1,e3])];exact hi,.inl rfl⟩
 have hapart:∀ b',(LI.rows none Rw).owns b'→(hd k).ownBlock=some b'→False:=fun b' h1 h2=>hne (I.inj id id3 _ _ b' q1 p1 h1 (hv▸h2))
 refine K h ρ' a w (I.step (S:=fun i=>i=id∨i=id3) rfl rfl rfl (Nat.le_refl _) (fun _ _ _=>rfl) ro hle (fun _ _ h=>h) (fun _ _ h=>.inl h) (fun i hi=>?_) ?_ ?_ ?_ ?_)
 · simp only [not_or] at hi
   simp only [mm]
   rw [zae _ _ hi.2,zae _ _ hi.1]
 · rintro i (rfl|rfl) hM'
   · simp only [mm] at hM';rw [zae _ _ hne,zah] at hM';cases hM'
   · simp only [mm] at hM';rw [zah] at hM';cases hM'
 · rintro i y (rfl|rfl) hM'
   · simp only [mm] at hM';rw [zae _ _ hne,zah] at hM';cases hM'
     refine ⟨R',r1,fun kk _=>?_,fun kk a' ha=>(by cases ha),⟨fun kk c' v' hR=>?_,fun kk kk' c1 c2 v1 v2 b' h1 h2 b1 b2=>?_⟩⟩
     · show (if kk=k then some (m k,hd k) else Rw kk)=_
       by_cases e1:kk=k
       · subst e1;rw [if_pos rfl,if_pos hdk]
       · rw [if_neg e1];exact q2 kk (fun a' ha=>by cases ha;exact e1 rfl)
     · rcases hR' kk c' v' hR with ⟨rfl,rfl,rfl⟩|⟨hn,hR⟩
       · simp only [if_pos]
         refine ⟨trivial,hv▸ze7 p2,xs,hv▸p2,p3,p4,p5⟩
       · simp only [if_neg hn]
         exact q4.row kk c' v' hR
     · rcases hR' kk c1 v1 h1 with ⟨rfl,rfl,rfl⟩|⟨hn,hR⟩ <;> rcases hR' kk' c2 v2 h2 with ⟨rfl,rfl,rfl⟩|⟨hn',hR2⟩
       · rfl
       · exact (hapart b' (.inr ⟨kk',c2,v2,hR2,b2⟩) b1).elim
       · exact (hapart b' (.inr ⟨kk,c1,v1,hR,b1⟩) b2).elim
       · exact q4.dis kk kk' c1 c2 v1 v2 b' hR hR2 b1 b2
   · simp only [mm] at hM';rw [zah] at hM';cases hM'
     exact ⟨_,_,r3⟩
 · rintro i l b' (rfl|rfl) h1 h2
   · rw [r1] at h1;cases h1
     rcases h2 with h2|⟨kk,c',v',hR,h2⟩
     · cases h2
     · rcases hR' kk c' v' hR with ⟨rfl,rfl,rfl⟩|⟨_,hR⟩
       · exact .inl ⟨id3,_,.inr rfl,p1,hv▸h2⟩
       · exact .inl ⟨i,_,.inl rfl,q1,.inr ⟨kk,c',v',hR,h2⟩⟩
   · rw [r3] at h1;cases h1;simp [LI.owns,Value.ownBlock] at h2
 · rintro i i' l l' b' (rfl|rfl) (rfl|rfl) h1 h1' h2 h2'
   · rfl
   · rw [r3] at h1';cases h1';simp [LI.owns,Value.ownBlock] at h2'
   · rw [r3] at h1;cases h1;simp [LI.owns,Value.ownBlock] at h2
   · rfl
theorem At.zm8 (id t:Nat) {ty sz n:Nat} {hd:Int→Value} {dom:Int→Bool} {m:Int→Nat} {e:Int→Nat→List AV} {K ts:List Nat} {L':List (Nat×AV)} {M':List (Nat×Blk)} (hM:mm M id=some (.rows ty sz hd dom m e none)) (hK:zbc K id=false)
 (ht:fr L t = .rom (.slice none 0 0) dom (fun k=>.raw (hd k)) n) (hm0:∀ k,dom k=false→m k=0) (hL:zh4 K L ts=some L') (hMK:zdE K M K=some M') (hbor:∀ b,¬ C.bor b)
 (Kk:At N C ((t,.rom (.slice none 0 0) dom (fun k=>.ro sz (m k) (e k)) n)::L') M' g R) (hs:zde K C.savA=true:=by rfl):At N C L M g R:=by
 intro h ρ a w I
 obtain ⟨Rw,q1,q2,q3,q4⟩:=I.blk id _ hM
 obtain ⟨m1,m2⟩:=zgp hMK
 have hidK:=zfa hK
 let ρ':Rho:=fun i=>if i∈K then ρ i else none
 have hρ:∀ i,i∈K→ρ' i=ρ i:=fun i hi=>if_pos hi
 have hρ':∀ i li,ρ' i=some li→i∈K∧ρ i=some li:=fun i li hi=>by
  have:(if i∈K then ρ i else none)=some li:=hi
  split at this
  · exact ⟨by assumption,this⟩
  · cases this
 have hle:=zhe I (fun b=>(LI.rows none Rw).owns b)
 have row:∀ k,dom k=true→Rel (frzHp h (fun b=>(LI.rows none Rw).owns b) w) ρ0 (.ro sz (m k) (e k)) (hd k):=fun k hk=>by
  have hRk:Rw k=some (m k,hd k):=by rw [q2 k (fun _ h=>by cases h),if_pos hk]
  obtain ⟨_,hone,xs,z1,z2,z3,z4⟩:=q4.row k _ _ hRk
  exact zdX z1 (fun b hb=>zkl (show (LI.rows none Rw).owns b from .inr ⟨k,_,_,hRk,hb⟩)) z2 z3 (fun i j c x a1 a2 a3=>(z4 i j c x a1 a2 a3).heap (Le.of hle))
 refine Kk _ ρ' a w (I.zhE (id2:=id) (S:=fun b=>(LI.rows none Rw).owns b) q1 hidK hidK (fun b hb=>hb) hbor hs hρ (fun i li hi=>.inl (hρ' i li hi)) (fun u=>?_) (fun i y hy=>?_) (fun i hi=>?_))
 · simp only [fr,put]
   split
   · rename_i hb
     have:=Nat.eq_of_beq_eq_true hb
     subst this
     have hv:=I.slot u
     rw [ht] at hv
     generalize a.tmps.getD u undef=x at hv
     cases hv with
     | romN _ _ _ _ hdom hz=>
      exact .romN _ _ _ _ hdom (fun k=>by
       rw [hm0 k (hdom k)]
       exact Sim.nil sz (e k) _ _ _ (.nilS _))
     | rom _ _ _ _ _ r es clock ks z1 z2 z3 z4 z5 z6 z7 z8 z9 z10=>
      refine .rom _ _ _ _ _ _ es clock ks (hle _ _ z1) z2 z3 z4 z5 z6 z7 z8 (fun k hk=>?_) (fun i k x e1 e2=>?_)
      · rw [hm0 k hk]
        exact Sim.nil sz (e k) _ _ _ (.nilS _)
      · have:=z10 i k x e1 e2
        generalize hx:x.val=y at this
        cases this
        exact row k ((z8 k).2 (List.mem_of_getElem? e1))
   · rcases zhF hL u with e1|⟨e1,e2⟩
     · rw [e1];exact .any _ _
     · have:=I.slot u
       rw [← e1] at this
       exact (this.heap (Le.of hle)).forget hρ e2
 · obtain ⟨h1,h2⟩:=m1 i y hy
   have hik:i∈K:=by
    by_cases hk:i∈K
    · exact hk
    · exact absurd hy (by rw [zlp hMK hk];simp)
   exact zbJ.frz I hρ hik h2 (I.blk i y h1)
 · cases hq:ρ' i with
   | none=>rfl
   | some li=>
    have:=m2 i (hρ' i li hq).1
    rw [hi] at this;cases this
end
def zl1 {T:Type} [Inhabited T] (ty sz:Nat) (f:T→List AV) (m:Mp (List T)) (out:Option (Int×AV)):Blk:=
 .gmap ty sz m.card (fun k=>(m.get k).isSome) (fun k=>((m.get k).getD []).length) (fun k j=>f (((m.get k).getD []).getD j default)) out
def zgK {T:Type} [Inhabited T] (ty sz:Nat) (f:T→List AV) (hd:Int→Value) (m:Mp (List T)) (out:Option (Int×AV)):Blk:=
 .rows ty sz hd (fun k=>(m.get k).isSome) (fun k=>((m.get k).getD []).length) (fun k j=>f (((m.get k).getD []).getD j default)) out
def romR {T:Type} (hd:Int→Value) (m:Mp (List T)):AV:=.rom (.slice none 0 0) (fun k=>(m.get k).isSome) (fun k=>.raw (hd k)) m.card
theorem BSim.gmapEq {ty sz n n':Nat} {dom dom':Int→Bool} {m m':Int→Nat} {e e':Int→Nat→List AV} {out:Option (Int×AV)} (h1:∀ k,dom k=dom' k) (h2:∀ k,m k=m' k) (h3:∀ k j,e k j=e' k j) (h4:n=n'):BSim (.gmap ty sz n dom m e out) (.gmap ty sz n' dom' m' e' out):=by
 obtain rfl:dom=dom':=funext h1
 obtain rfl:m=m':=funext h2
 obtain rfl:e=e':=funext fun k=>funext (h3 k)
 subst h4
 exact .refl _
theorem BSim.znM {ty sz:Nat} {hd:Int→Value} {dom dom':Int→Bool} {m m':Int→Nat} {e e':Int→Nat→List AV} {out:Option (Int×AV)} (h1:∀ k,dom k=dom' k) (h2:∀ k,m k=m' k) (h3:∀ k j,e k j=e' k j):BSim (.rows ty sz hd dom m e out) (.rows ty sz hd dom' m' e' out):=by
 obtain rfl:dom=dom':=funext h1
 obtain rfl:m=m':=funext h2
 obtain rfl:e=e':=funext fun k=>funext (h3 k)
 exact .refl _
section
variable {N:Nat} {C:Ctx} {L:List (Nat×AV)} {M:List (Nat×Blk)} {g:Nat} {R:Act→World→Prop} {T:Type} [Inhabited T] {f:T→List AV}
theorem At.zok (id id3:Nat) (k:Int) {ty sz:Nat} {m:Mp (List T)} (hM:mm M id=some (zl1 ty sz f m none)) (h3:mm M id3=none)
 (K:At N C L ((id3,bufL ty sz f ((m.get k).getD []))::(id,zl1 ty sz f m (some (k,.buf id3 ((m.get k).getD []).length)))::M) g R):At N C L M g R:=
 At.zpn id id3 k hM h3 (fun hd=>by
  cases hk:m.get k with
  | none=>rfl
  | some l=>rw [hk] at hd;cases hd) K
theorem At.zpo (id id3:Nat) (k:Int) {ty sz c:Nat} {m:Mp (List T)} {l:List T}
 (hM:mm M id=some (.gmap ty sz (bif (m.get k).isSome then m.card else m.card+1) (fun j=>decide (j=k) || (m.get j).isSome) (fun j=>((m.get j).getD []).length) (fun j i=>f (((m.get j).getD []).getD i default)) (some (k,.buf id3 c)))) (h3:mm M id3=some (bufL ty sz f l)) (hc:c=l.length)
 (K:At N C L ((id3,.dead)::(id,zl1 ty sz f (m.set k l) none)::M) g R):At N C L M g R:=by
 subst hc
 refine At.zp7 id id3 k hM h3 (by simp) (At.zaX (.cons (.refl _) (.cons ?_ (AgreeM.refl _))) K)
 refine BSim.gmapEq (fun j=>?_) (fun j=>?_) (fun j i=>?_) ?_
 · by_cases e:j=k <;> simp [Mp.set,e]
 · by_cases e:j=k <;> simp [Mp.set,e]
 · by_cases e:j=k <;> simp [Mp.set,e]
 · simp only [Mp.set]
   cases (m.get k).isSome <;> rfl
theorem At.zol (id:Nat) {ty sz:Nat} {m:Mp (List T)} {K ts:List Nat} {L':(Int→Value)→List (Nat×AV)} {M':List (Nat×Blk)} (hM:mm M id=some (zl1 ty sz f m none)) (hK:zbc K id=false)
 (hL:∀ hd:Int→Value,fmS id (romR hd m) K L ts=some (L' hd)) (hMK:zdE K M K=some M') (hbor:∀ b,¬ C.bor b)
 (Kk:∀ hd:Int→Value,At N C (L' hd) ((id,zgK ty sz f hd m none)::M') g R) (hs:zde K C.savA=true:=by rfl):At N C L M g R:=
 At.zpp id hM hK hL hMK hbor Kk hs
theorem Mp.zlX {g:T→Option T} {m y:Mp T} (h:m.zmI g=some y) {left:List Int} (hok:m.ok) (hl:left.Nodup∧left.length=m.card∧∀ k,(m.get k).isSome=true↔k∈left) :
 y.card=m.card∧y.keys=m.keys∧(∀ k,m.get k=none→y.get k=none)∧∀ k l,m.get k=some l→∃ r,g l=some r∧y.get k=some r:=by
 unfold Mp.zmI at h
 split at h
 · rename_i ha
   cases h
   refine ⟨rfl,rfl,fun k hk=>by simp only [hk],fun k l hk=>?_⟩
   have hmem:k∈m.keys:=(Mp.perm hok hl).mem_iff.2 ((hl.2.2 k).1 (by rw [hk];rfl))
   have:=List.all_eq_true.1 ha k hmem
   rw [hk] at this
   obtain ⟨r,hr⟩:=Option.isSome_iff_exists.1 this
   exact ⟨r,hr,by simp only [hk];exact hr⟩
 · cases h
omit [Inhabited T] in
theorem Mp.zn3 {m y:Mp T} {left:List Int} {k:Int} (h:k∈left):(m.mix y left).get k=m.get k:=if_pos h
theorem BSim.znL {ty sz:Nat} {hd:Int→Value} {m y:Mp (List T)} {left:List Int} (hl:∀ k,(m.get k).isSome=true↔k∈left) (hy:∀ k,m.get k=none→y.get k=none):BSim (zgK ty sz f hd m none) (zgK ty sz f hd (m.mix y left) none):=by
 have:∀ k,(m.mix y left).get k=m.get k:=fun k=>by
  show (if k∈left then m.get k else y.get k)=m.get k
  split
  · rfl
  · rename_i hk
    cases h:m.get k with
    | none=>exact hy k h
    | some l=>exact absurd ((hl k).1 (by rw [h];rfl)) hk
 exact BSim.znM (fun k=>by rw [this]) (fun k=>by rw [this]) (fun k j=>by rw [this])
theorem BSim.zpT {ty sz:Nat} {hd:Int→Value} {m y:Mp (List T)}:BSim (zgK ty sz f hd (m.mix y []) none) (zgK ty sz f hd y none):=by
 have:∀ k,(m.mix y []).get k=y.get k:=fun k=>by
  show (if k∈([]:List Int) then m.get k else y.get k)=y.get k
  simp
 exact BSim.znM (fun k=>by rw [this]) (fun k=>by rw [this]) (fun k j=>by rw [this])
theorem At.znJ (id id3 t:Nat) (k:Int) {ty sz:Nat} {hd:Int→Value} {m:Mp (List T)} (hM:mm M id=some (zgK ty sz f hd m none)) (h3:mm M id3=none) (ht:fr L t = .raw (hd k)) (hdk:(m.get k).isSome=true)
 (K:At N C ((t,.buf id3 ((m.get k).getD []).length)::L) ((id3,bufL ty sz f ((m.get k).getD []))::(id,zgK ty sz f hd m (some (k,.buf id3 ((m.get k).getD []).length)))::M) g R):At N C L M g R:=
 At.zo6 id id3 t k hM h3 ht hdk K
theorem At.zo7 (id id3:Nat) (k:Int) {ty sz:Nat} {hd:Int→Value} {m y:Mp (List T)} {left left':List Int} {r:List T} (hM:mm M id=some (zgK ty sz f hd (m.mix y left) (some (k,.buf id3 (((m.mix y left).get k).getD []).length)))) (h3:mm M id3=some (bufL ty sz f r))
 (hp:left.Perm (k::left')) (hnd:left.Nodup) (hdk:(m.get k).isSome=true) (hy:y.get k=some r) (hc:r.length=((m.get k).getD []).length)
 (K:At N C L ((id3,.dead)::(id,zgK ty sz f hd (m.mix y left') none)::M) g R):At N C L M g R:=by
 have hkl:k∈left:=hp.mem_iff.2 (List.mem_cons_self ..)
 have hmk:(m.mix y left).get k=m.get k:=Mp.zn3 hkl
 have hnk:k ∉ left':=(List.nodup_cons.1 (hp.nodup_iff.1 hnd)).1
 refine At.zpS id id3 k hM h3 (by rw [hmk];exact hc) (by rw [hmk];exact hdk) (At.zaX (.cons (.refl _) (.cons ?_ (AgreeM.refl _))) K)
 have hk':(m.mix y left').get k=some r:=by
  show (if k∈left' then m.get k else y.get k)=some r
  rw [if_neg hnk];exact hy
 have hj:∀ j,j≠k→(m.mix y left').get j=(m.mix y left).get j:=fun j hne=>by
  show (if j∈left' then m.get j else y.get j)=(if j∈left then m.get j else y.get j)
  have:j∈left↔j∈left':=by rw [hp.mem_iff];simp [hne]
  by_cases h:j∈left'
  · rw [if_pos h,if_pos (this.2 h)]
  · rw [if_neg h,if_neg (fun h'=>h (this.1 h'))]
 refine BSim.znM (fun j=>?_) (fun j=>?_) (fun j i=>?_)
 · by_cases e:j=k
   · subst e;rw [hk',hmk,hdk];rfl
   · rw [hj j e]
 · by_cases e:j=k
   · subst e;rw [hk',hmk,← hc];rfl
   · rw [hj j e]
 · by_cases e:j=k
   · subst e;rw [hk',if_pos rfl];rfl
   · rw [if_neg e,hj j e]
theorem At.zlP (id t:Nat) {ty sz:Nat} {hd:Int→Value} {m y:Mp (List T)} {K ts:List Nat} {L':List (Nat×AV)} {M':List (Nat×Blk)} (hM:mm M id=some (zgK ty sz f hd y none)) (hK:zbc K id=false) (ht:fr L t=romR hd m) (hc:y.card=m.card) (hn:∀ k,(m.get k).isSome=(y.get k).isSome)
 (hL:zh4 K L ts=some L') (hMK:zdE K M K=some M') (hbor:∀ b,¬ C.bor b)
 (Kk:At N C ((t,romL (.slice none 0 0) (fun l=>roL sz f l) y)::L') M' g R) (hs:zde K C.savA=true:=by rfl):At N C L M g R:=by
 have e1:romR hd m=romR hd y:=by
  unfold romR
  rw [hc,show (fun k=>(m.get k).isSome)=(fun k=>(y.get k).isSome) from funext hn]
 refine At.zm8 id t hM hK (ht.trans e1) (fun k hk=>?_) hL hMK hbor Kk hs
 cases h:y.get k with
 | none=>rfl
 | some l=>rw [h] at hk;cases hk
theorem At.znK (id id3 t:Nat) (k:Int) {ty sz:Nat} {hd:Int→Value} {m:Mp (List T)} {l:List T} (hM:mm M id=some (zgK ty sz f hd m none)) (h3:mm M id3=none) (ht:fr L t = .raw (hd k)) (hl:m.get k=some l)
 (K:At N C ((t,.buf id3 l.length)::L) ((id3,bufL ty sz f l)::(id,zgK ty sz f hd m (some (k,.buf id3 l.length)))::M) g R):At N C L M g R:=by
 refine At.znJ id id3 t k hM h3 ht (by rw [hl];rfl) ?_
 rw [hl];exact K
theorem At.zo8 (id id3:Nat) (k:Int) {ty sz c:Nat} {hd:Int→Value} {m y:Mp (List T)} {left left':List Int} {l r:List T} (hM:mm M id=some (zgK ty sz f hd (m.mix y left) (some (k,.buf id3 c)))) (h3:mm M id3=some (bufL ty sz f r))
 (hp:left.Perm (k::left')) (hnd:left.Nodup) (hl:m.get k=some l) (hcl:c=l.length) (hy:y.get k=some r) (hc:r.length=l.length)
 (K:At N C L ((id3,.dead)::(id,zgK ty sz f hd (m.mix y left') none)::M) g R):At N C L M g R:=by
 have hmk:(m.mix y left).get k=some l:=(Mp.zn3 (hp.mem_iff.2 (List.mem_cons_self ..))).trans hl
 refine At.zo7 id id3 k (m:=m) (y:=y) (left:=left) ?_ h3 hp hnd (by rw [hl];rfl) hy (by rw [hl];exact hc) K
 rw [hmk,hM,hcl];rfl
omit [Inhabited T] in
theorem Mp.dom_of {T:Type} {m y:Mp T} (h1:∀ k,m.get k=none→y.get k=none) (h2:∀ k l,m.get k=some l→∃ r,y.get k=some r) (k:Int):(m.get k).isSome=(y.get k).isSome:=by
 cases h:m.get k with
 | none=>rw [h1 k h]
 | some l=>obtain ⟨r,hr⟩:=h2 k l h;rw [hr];rfl
theorem BSim.zom {ty sz:Nat}:BSim (.gmap ty sz 0 (fun _=>false) (fun _=>0) (fun _ _=>[]) none) (zl1 ty sz f (Mp.empty:Mp (List T)) none):=by
 intro h ρ id w B
 obtain ⟨b,es,clock,ks,Rw,q1,q2,q3,q4,q5,q6,q7,q8,q9,q10,q11,q12,q13⟩:=B
 have hR:∀ k,Rw k=none:=fun k=>by
  cases hk:Rw k with
  | none=>rfl
  | some p=>obtain ⟨c,v⟩:=p;exact absurd (q12 k c v hk).1 (by simp)
 have hks:ks=[]:=List.eq_nil_of_length_eq_zero q4
 subst hks
 exact ⟨b,es,clock,[],Rw,q1,q2,q3,q4,q5,q6,q7,q8,fun k=>by simp [Mp.empty],fun i k x hk=>(by simp at hk),fun k a ha=>(by cases ha),fun k c v hk=>(by rw [hR k] at hk;cases hk),
  ⟨fun k c v hk=>(by rw [hR k] at hk;cases hk),fun k k' c c' v v' b hk=>(by rw [hR k] at hk;cases hk)⟩⟩
end
end Go.Av
end
/- Ranges over maps: whichever entry comes next. -/
section
set_option linter.all false
namespace Go.Av
open Go.ChangeMaps (setBlock)
section
variable {P:Program} {N:Nat} {C:Ctx} {rr:Option Nat} {L:List (Nat×AV)} {M:List (Nat×Blk)} {g:Nat} {Q:Exit→Act→World→Prop}
theorem At.zke (id:Nat) {e:Int→AV} {Pl:List Int→Prop} {R:Act→World→Prop} (hM:mm M id=some (.iter e none Pl)) (K:∀ left,Pl left→At N C L ((id,.iter e none (fun l=>l=left))::M) g R):At N C L M g R:=by
 intro h ρ a w I
 obtain ⟨b,bm,clock,c0,es,seen,left,q1,q2,q3,q4,q5,q6,q7,q8,q9,q10⟩:=I.blk id _ hM
 refine K left q8 h ρ a w { I with blk:=fun i x hx=>?_,dom:=fun i hi=>?_ }
 · simp only [mm] at hx
   by_cases e1:i=id
   · subst e1;rw [zah] at hx;cases hx
     exact ⟨b,bm,clock,c0,es,seen,left,q1,q2,q3,q4,q5,q6,q7,rfl,q9,q10⟩
   · rw [zae _ _ e1] at hx;exact I.blk i x hx
 · simp only [mm] at hi
   by_cases e1:i=id
   · subst e1;rw [zah] at hi;cases hi
   · rw [zae _ _ e1] at hi;exact I.dom i hi
theorem BSim.zpk {e:Int→AV} {c:Option Int} {Pl Pl':List Int→Prop} (h:∀ l,Pl l→Pl' l):BSim (.iter e c Pl) (.iter e none Pl'):=by
 rintro h' ρ id w ⟨b,bm,clock,c0,es,seen,left,q1,q2,q3,q4,q5,q6,q7,q8,q9,_⟩
 exact ⟨b,bm,clock,c0,es,seen,left,q1,q2,q3,q4,q5,q6,q7,h left q8,q9,fun k hk=>by cases hk⟩
theorem zoc {es:Array MapEntry} {seen:Array Nat} {x:MapEntry} {left:List Int} {k:Int} (hk:(leftOf es seen).toList.map (·.key)=left.map (fun k=>Value.int .i64 k)) (hx:x∈(leftOf es seen).toList) (hn:(es.toList.map (·.born)).Nodup) (hkey:x.key = .int .i64 k) :
 ∃ left':List Int,left.Perm (k::left')∧(leftOf es (seen.push x.born)).toList.map (·.key)=left'.map (fun k=>Value.int .i64 k):=by
 have h1:(leftOf es (seen.push x.born)).toList=(leftOf es seen).toList.filter (fun e=>e.born != x.born):=by
  unfold leftOf
  simp only [Array.toList_filter,List.filter_filter]
  congr 1
  funext e
  by_cases he:e.born=x.born
  · simp [he]
  · have:(seen.push x.born).contains e.born=seen.contains e.born:=by
     rw [Bool.eq_iff_iff];simp [he]
    rw [this]
    have hb:(e.born != x.born)=true:=by simpa using he
    rw [hb,Bool.true_and]
 have hsub:(leftOf es seen).toList.Sublist es.toList:=by
  unfold leftOf;simp only [Array.toList_filter];exact List.filter_sublist
 have hnl:((leftOf es seen).toList.map (·.born)).Nodup:=(hsub.map _).nodup hn
 generalize (leftOf es seen).toList=l at hk hx h1 hnl
 rw [h1]
 clear h1 hsub
 induction l generalizing left with
 | nil=>cases hx
 | cons y l ih=>
  cases left with
  | nil=>simp at hk
  | cons k0 left=>
  simp only [List.map_cons,List.cons.injEq] at hk
  simp only [List.map_cons,List.nodup_cons] at hnl
  rcases List.mem_cons.1 hx with rfl|hx
  · have hkk:k0=k:=by have:=hk.1;rw [hkey] at this;cases this;rfl
    subst hkk
    refine ⟨left,List.Perm.refl _,?_⟩
    rw [List.filter_cons_of_neg (by simp)]
    rw [List.filter_eq_self.2 (fun z hz=>by
     have:z.born≠x.born:=fun e=>hnl.1 (e▸List.mem_map_of_mem hz)
     simpa using this)]
    exact hk.2
  · obtain ⟨left',p1,p2⟩:=ih hk.2 hx hnl.2
    refine ⟨k0::left',(p1.cons k0).trans (List.Perm.swap _ _ _),?_⟩
    have:y.born≠x.born:=fun e=>hnl.1 (e▸List.mem_map_of_mem hx)
    rw [List.filter_cons_of_pos (by simpa using this),List.map_cons,List.map_cons,p2,hk.1]
theorem W.next {rid:Nat} {o1 o2:Oper} {it d1 d2 id:Nat} {e:Int→AV} {left:List Int} (h1:o1.op = .next (.tmp it) false) (g1:o1.guard=none) (hd1:o1.dst=some d1) (h2:o2.op = .extract (.tmp d1) 0) (g2:o2.guard=none) (hd2:o2.dst=some d2)
 (hl1:Nat.blt d1 N=true) (hl2:Nat.blt d2 N=true) (hne:Nat.beq d1 d2=false) (hL:fr L it = .lp id 0) (hM:mm M id=some (.iter e none (fun l=>l=left)))
 (K0:left=[]→At N C ((d2,.bool false)::(d1,.any)::L) M g (Q .normal))
 (K1:∀ k left',left.Perm (k::left')→At N C ((d2,.bool true)::(d1,.any)::L) ((id,.iter e (some k) (fun l=>l=left'))::M) g (Q .normal)):W P N rr C (.region rid #[o1,o2] false) L M g Q:=by
 intro h ρ a w I
 obtain ⟨b,bmo,clock,c0,es,seen,left0,q1,q2,q3,q4,q5,q6,q7,rfl,q9,q10⟩:=I.blk id _ hM
 have hlt1:d1<N:=Nat.le_of_ble_eq_true hl1
 have hlt2:d2<N:=Nat.le_of_ble_eq_true hl2
 have hne':d1≠d2:=fun e=>by subst e;simp at hne
 have hit:a.eval (.tmp it) = .pointer (some ⟨b,0,none⟩):=by
  have:=I.slot it
  rw [hL] at this
  show a.tmps.getD it undef=_
  generalize a.tmps.getD it undef=v at this
  cases this with
  | lp _ _ _ b' hb=>rw [q1] at hb;cases hb;rfl
 refine wpIn_region ?_
 have hr2:List.range #[o1,o2].size=[0,1]:=rfl
 rw [hr2,wpOpsIn_cons]
 unfold wpOpIn
 simp only [List.getElem?_toArray,List.getElem?_cons_zero]
 rw [if_pos (by simp [Region.wanted,g1])]
 have hd01:∀ c,o1.op ≠ .defer c:=fun c e=>by rw [h1] at e;cases e
 have hd02:∀ c,o2.op ≠ .defer c:=fun c e=>by rw [h2] at e;cases e
 have second:∀ (v:Bool) (vs:List Value) (w':World) (a':Act),a'.tmps.getD d1 undef = .tuple (Value.bool v::vs).toArray→Q .normal (a'.put (some d2) (.bool v)) w'→wpOpsIn (Fw rr) 1 P #[o1,o2] Q [1] a' w':=by
  intro v vs w' a' hv hq
  rw [wpOpsIn_cons]
  unfold wpOpIn
  simp only [List.getElem?_toArray,List.getElem?_cons_succ,List.getElem?_cons_zero]
  rw [if_pos (by simp [Region.wanted,g2])]
  refine ⟨fun _ _=>trivial,?_⟩
  rw [Oper.semAt_eq _ _ _ hd02]
  have hrun:(execOp a'.eval o2).run P w' = .ok (.value (.bool v)) w':=by
   unfold execOp
   have:a'.eval (.tmp d1) = .tuple (Value.bool v::vs).toArray:=hv
   simp [h2,this,Instr.extract]
  rw [hrun,Oper.uponIn_value,hd2]
  exact hq
 refine ⟨fun _ _=>trivial,?_⟩
 rw [Oper.semAt_eq _ _ _ hd01]
 have hex:∀ (r:Result Value),(Instr.next (.pointer (some ⟨b,0,none⟩)) false o1.type).run P w=r→(execOp a.eval o1).run P w=r.andThen fun v w=>.ok (.value v) w:=by
  intro r hr
  unfold execOp
  simp only [h1,hit,Sem.run_bind,hr,Sem.run_pure]
 have putL:∀ {h':Hp} {ρ':Rho} {M':Mm} {w':World} (u:Value) (v:Bool),InvH N C h' ρ' (fr L) M' g a w'→InvH N C h' ρ' (fr ((d2,.bool v)::(d1,.any)::L)) M' g ((a.put (some d1) u).put (some d2) (.bool v)) w':=fun u v I0=>
  (I0.put (d:=some d1) (v:=.any) (fun t ht=>by cases ht;exact hlt1) (.any _ u)).put (d:=some d2) (v:=.bool v) (fun t ht=>by cases ht;exact hlt2) (.bool _ v)
 have get1:∀ u,(a.put (some d1) u).tmps.getD d1 undef=u:=fun u=>by
  have:d1<a.tmps.size:=by rw [I.size];exact hlt1
  simp [Act.put,this]
 cases bmo with
 | none=>
  have hr:(Instr.next (.pointer (some ⟨b,0,none⟩)) false o1.type).run P w = .ok (.tuple #[.bool false]) w:=by
   simp only [Instr.next,getObj,Sem.run_bind,Sem.run,q2,Result.andThen]
   rfl
  rw [hex _ hr]
  simp only [Result.andThen]
  rw [Oper.uponIn_value,hd1]
  refine second false [] w _ (get1 _) ?_
  have hnil:left0=[]:=by
   have h0:=q3.2 rfl
   subst h0
   cases left0 with
   | nil=>rfl
   | cons=>simp [leftOf] at q7
  exact K0 hnil h ρ _ w (putL _ false I)
 | some bm=>
 have q3':=q3.1 bm rfl
 rcases run_next_at (P:=P) w o1.type b bm clock c0 seen es.toArray clock q2 (I.hp _ _ q3') (by simpa using q4) q6 with ⟨hz,hr⟩|⟨x,hx,w1,hw1,hr⟩
 · rw [hex _ hr]
   simp only [Result.andThen]
   rw [Oper.uponIn_value,hd1]
   refine second false [] w _ (get1 _) ?_
   have hnil:left0=[]:=by
    have h0:(leftOf es.toArray seen).toList=[]:=List.eq_nil_of_length_eq_zero (by simpa using hz)
    rw [h0] at q7
    cases left0 with
    | nil=>rfl
    | cons=>simp at q7
   exact K0 hnil h ρ _ w (putL _ false I)
 · rw [hex _ hr]
   simp only [Result.andThen]
   rw [Oper.uponIn_value,hd1]
   refine second true [x.key,x.val] _ _ (get1 _) ?_
   have hxe:x∈es:=by
    unfold leftOf at hx
    simp at hx;exact hx.1
   obtain ⟨k,k1,k2⟩:=q9 x hxe
   obtain ⟨left',p1,p2⟩:=zoc q7 hx (by simpa using q5) k1
   have I1:InvH N C h ρ (fr L) (mm M) g a w1:=by
    rcases hw1 with rfl|rfl
    · exact I
    · exact I.drew
   have hb1:w1.heap[b]? = some (.mapIter (some bm) clock seen c0):=by rcases hw1 with rfl|rfl <;> exact q2
   have hblt:b<w1.heap.size:=(Array.getElem?_eq_some_iff.1 hb1).1
   have hbm:bm≠b:=by rintro rfl;have:=I.hp _ _ q3';rw [q2] at this;cases this
   have I2:=I1.turn (w':=setBlock w1 b (.mapIter (some bm) clock (seen.push x.born) clock)) q1 (.iter e (some k) (fun l=>l=left')) rfl rfl rfl (by simp [setBlock]) (fun j hj=>by simp [setBlock,Array.getElem?_setIfInBounds_ne (Ne.symm hj)])
    ⟨b,some bm,clock,clock,es,seen.push x.born,left',q1,by simp [setBlock,hblt],q3,q4,q5,Nat.le_refl _,p2,rfl,q9,fun k' hk'=>by cases hk';exact ⟨rfl,x,seen,hxe,k1,rfl⟩⟩
   exact K1 k left' p1 h ρ _ _ (putL _ true I2)
theorem W.zkf {S:Type} {c:Code} (id:Nat) (e:Int→AV) (J:List Int→S→Prop) (Ls:S→List (Nat×AV)) (Ms:S→List (Nat×Blk)) {left0:List Int} {s0:S} (h0:J left0 s0) (hL:Agree (fr L) (Ls s0)) (hM:AgreeM M ((id,.iter e none (fun l=>l=left0))::Ms s0))
 (round:∀ left s,J left s→∀ K:Act→World→Prop,(∀ k left' s',left.Perm (k::left')→J left' s'→At N C (Ls s') ((id,.iter e (some k) (fun l=>l=left'))::Ms s') g K) →
  W P N rr C c (Ls s) ((id,.iter e none (fun l=>l=left))::Ms s) g (Exit.then K Q)):W P N rr C (.loop c) L M g Q:=by
 refine W.loop (S:=List Int×S) (fun n s=>s.1.length=n∧J s.1 s.2) (fun s=>Ls s.2) (fun s=>(id,.iter e none (fun l=>l=s.1))::Ms s.2) (n0:=left0.length) (s0:=(left0,s0)) ⟨rfl,h0⟩ hL hM (fun n s hJ K hK=>?_)
 obtain ⟨left,s⟩:=s
 obtain ⟨hn,hJ⟩:=hJ
 refine round left s hJ K (fun k left' s' hp hJ'=>?_)
 have hlen:left'.length<n:=by have:=hp.length_eq;simp at this hn;omega
 refine At.zaX ?_ (hK left'.length (left',s') hlen ⟨rfl,hJ'⟩)
 exact .cons (BSim.zpk (fun l h=>h)) (AgreeM.refl _)
end
end Go.Av
end
/- Choices: contracts with an answer of which something holds; a region with such a call; ranges over maps that turn what is kept, in whatever order. -/
section
set_option linter.all false
namespace Go.Av
open Go.Sp
def CtrN (P:Program) (f:FuncId) (args:List AV) {T:Type} (V:T→AV) (G:T→Prop):Prop:=
 Enters P f∧∀ (h:Hp) (w:World) (vs:List Value),RelL h ρ0 args vs→(∀ b o,h b=some o→w.heap[b]? = some o)→CallsIn (Fw none) 0 P f vs.toArray w (fun e w'=>∃ r,G r∧zhS h w (V r) [] e w')
def RetQN (P:Program) (fn:Func) (h0:Hp) (w0:World) {T:Type} (V:T→AV) (G:T→Prop):Exit→Act→World→Prop:=bodyPostM (Fw none) 1 P fn (fun e w'=>∃ r,G r∧zhS h0 w0 (V r) [] e w')
section
variable {P:Program} {N:Nat} {Γ:Tys} {L:List (Nat×AV)} {M:List (Nat×Blk)} {g:Nat} {C:Ctx} {rr:Option Nat} {Q:Exit→Act→World→Prop} {T:Type} {V:T→AV} {G:T→Prop}
theorem At.retN (hΓ:zbb P Γ) {w0:World} {h0:Hp} {fn:Func} {v':AV} (r:T) (hG:G r) {xs:List AV} {rd:List Nat} {c:Option Prop} (hr:resL Γ (fr L) (mm M) fn.results.toList=some xs) (hv:view (mm M) (resV xs)=some (v',rd,c)) (hc:∀ q,c=some q→q) (hs:Sim v' (V r))
 (hval:∀ b o,h0 b=some o→w0.heap[b]? = some o):At N (Cp w0 h0) L M g (RetQN P fn h0 w0 V G .ret):=
 At.retR hΓ (fun _ _ h=>⟨r,hG,h⟩) hr hv hc hs hval
theorem CtrN.zam {f : FuncId} {fn : Func} {c : Code} {xs : List AV} (hf : P.funcs[f]? = some fn) (hn : (fn.name == "runtime.NumGoroutine") = false) (hb : fn.body = some c) (hN : fn.ntmps = N) (hx : Nat.ble xs.length N = true)
 (H:∀ w0 h0,(∀ b o,h0 b=some o→w0.heap[b]? = some o)→W P N none (Cp w0 h0) c (argL 0 xs) [] 0 (RetQN P fn h0 w0 V G)):CtrN P f xs V G:=by
 refine ⟨enters_of hf hn hb,fun h w vs hR hp=>?_⟩
 refine zcV (n:=1) (callsIn_of_wp_marks hf hb trivial ?_)
 refine H w h hp h ρ0 _ w ?_
 have hlen:vs.length≤N:=by rw [hR.1];exact Nat.le_of_ble_eq_true hx
 refine ⟨fun t=>?_,⟨rfl,fun i c v h1=>by simp [Cp,Cq] at h1⟩,?_,hp,fun id x hx=>(by cases hx),fun _ _=>rfl,fun id li b h1=>(by cases h1),fun id id' li li' b h1=>(by cases h1),rfl,rfl,rfl,Nat.le_refl _,fun _ _ _=>rfl,fun b o hb=>hb,fun b o hb _=>hb,⟨fun _=>True,fun _ _=>trivial,fun _ _ _=>.inr trivial,trivial⟩,⟨[],rfl,List.nodup_nil,fun D hD=>(by cases hD)⟩⟩
 · rcases zho (h:=h) (ρ:=ρ0) 0 hR t with e|⟨i,u,e1,e2,e3⟩
   · rw [e];exact .any _ _
   · have e0:t=i:=by omega
     subst e0
     have hi:t<vs.length:=(List.getElem?_eq_some_iff.1 e2).1
     have:(vs.toArray++Array.replicate (fn.ntmps - vs.toArray.size) undef).getD t undef=u:=by
      have e4:vs[t]=u:=by have:=List.getElem?_eq_getElem hi;rw [this] at e2;exact Option.some.inj e2
      simp [Array.getElem?_append,hi,e4]
     rw [this]
     exact e3
 · simp [hN];omega
theorem CtrN.one {f:FuncId} {xs:List AV} (H:CtrN P f xs V G) {r0:T} (h1:∀ r,G r→r=r0):Ctr P f xs (V r0):=
 ⟨H.1,fun h w vs hR hp=>(H.2 h w vs hR hp).mono (fun _ _ ⟨r,hG,h2⟩=>h1 r hG▸h2)⟩
theorem W.znQ (E:Env P Γ) {id:Nat} {ops:Array Oper} (own:List Nat) (k:Nat) (rvs1 rvs2:List RV) {A1:Acc} {A2:T→Acc} {y:Oper} {post:List Oper} {gf:FuncId} {args:Array Operand} {ts:Array TypeId} {d:Nat} {xs:List AV}
 (hk:ops.toList.drop k=y::post) (hr1:runR Γ own ops.toList (ops.toList.take k) rvs1 L M=some A1) (hyo:y.op = .call { callee:=.value (.func gf),args:=args,argTypes:=ts }) (hyd:y.dst=some d) (hg:y.guard=none)
 (hxs:zgu (mm A1.M) (zfb (evO (fr A1.L)) args.toList)=some (xs,[],none))
 (hr2:∀ r,runR Γ own ops.toList post rvs2 ((d,V r)::A1.L) A1.M=some (A2 r)) (hd:zjq N ops.toList=true)
 (hcs1:AllP A1.cs) (hrq1:RqOk P A1.rq) (hcs2:∀ r,AllP (A2 r).cs) (hrq2:∀ r,RqOk P (A2 r).rq) (hcl:∀ r,(V r).cl=true) (hC:CtrN P gf xs V G)
 (K:∀ r,G r→At N C (A2 r).L (A2 r).M g (Q .normal)) (hz:FzOk own C:=by first|exact .inl rfl|exact .inr (fun _ h=>h)):W P N none C (.region id ops false) L M g Q:=by
 intro h ρ a w I
 refine wpIn_region ?_
 have hlen:k<ops.toList.length:=by
  rcases Nat.lt_or_ge k ops.toList.length with h|h
  · exact h
  · rw [List.drop_eq_nil_of_le h] at hk;cases hk
 have hsplit:ops.toList=ops.toList.take k++y::post:=by rw [← hk,List.take_append_drop]
 have htk:(ops.toList.take k).length=k:=by rw [List.length_take];omega
 have hsize:ops.size=k+(1+post.length):=by
  have:=congrArg List.length hsplit
  rw [List.length_append,htk,List.length_cons] at this
  simp at this;omega
 have hrange:List.range ops.size=List.range' 0 (ops.toList.take k).length++(k::List.range' (k+1) post.length):=by
  rw [htk,List.range_eq_range',hsize,Nat.add_comm 1,← List.range'_append_1,Nat.zero_add,List.range'_succ]
 rw [hrange]
 obtain ⟨rs,T1,_⟩:=zc2 (N:=N) E.ty E.depth (ops.toList.take k) rvs1 L M hr1 hcs1.mem hrq1
 have hyk:ops[k]? = some y:=by
  rw [← Array.getElem?_toList,hsplit,List.getElem?_append_right (by omega),htk];simp
 have hpost:∀ j,post[j]? = ops[k+1+j]? := fun j=>by
  rw [← Array.getElem?_toList,hsplit,List.getElem?_append_right (by omega),htk,show k+1+j - k=j+1 by omega];simp
 have hmem:∀ o,o∈post→o∈ops.toList:=fun o ho=>by rw [hsplit];simp [ho]
 have hnd:∀ c,y.op ≠ .defer c:=fun c e=>by rw [hyo] at e;cases e
 have hdN:d<N:=zcq hd y (by rw [hsplit];simp) d hyd
 refine T1.lexK hz _ (fun h ρ a w I=>?_) 0 h ρ a w I (fun o ho=>zcq hd o (List.mem_of_mem_take ho)) (fun j=>?_)
 rotate_left
 · rw [List.getElem?_take,← Array.getElem?_toList,Nat.zero_add]
   by_cases hj:j<k
   · left;rw [if_pos hj]
   · right;omega
 rw [wpOpsIn_cons]
 unfold wpOpIn
 simp only [hyk]
 have hgs:Region.wanted y (yielded ops a.tmps)=true:=by unfold Region.wanted;rw [hg]
 rw [hgs,if_pos rfl]
 have hop:∀ z,z∈y.op.operands→Rel h ρ (evO (fr A1.L) z) (a.eval z):=fun z hz=>zfU (ops:=ops) (o:=y) I (fun _ _=>rfl) hz
 have hargs:RelL h ρ (zfb (evO (fr A1.L)) args.toList) (args.toList.map a.eval):=zdZ args.toList (fun z hz=>hop z (zdY hyo hz))
 have hview:RelL h ρ0 xs (args.toList.map a.eval):=ze3 I (Le.refl h) hargs hxs (fun id hid=>by cases hid) nofun (fun id hid=>by cases hid)
 refine ⟨fun _ _=>trivial,?_⟩
 rw [Oper.semAt_eq _ _ _ hnd,zgf (us:=[]) (ws:=[]) hyo rfl w]
 simp only [List.nil_append,List.append_nil]
 rw [hC.1]
 refine ⟨fun e=>(by cases e),?_⟩
 refine zcV ((hC.2 h w _ hview I.hp).mono fun e w' he=>?_)
 obtain ⟨r,hG,he⟩:=he
 cases e with
 | panicked ch=>exact he.elim
 | outgrown=>exact he.elim
 | returned x=>
  obtain ⟨h',ρc,q1,q2,q3,q4,q5⟩:=he
  have hx:Rel h' ρ (V r) x:=q4.zdu (hcl r)
  have I1:=I.below q1 q2 q3
  have hp:=I1.put (d:=y.dst) (fun t ht=>by rw [hyd] at ht;cases ht;exact hdN) hx
  obtain ⟨rs2,T2,_⟩:=zc2 (N:=N) E.ty E.depth post rvs2 _ _ (hr2 r) (hcs2 r).mem (hrq2 r)
  rw [hyd] at hp ⊢
  exact T2.lex hz (K r hG) (k+1) h' ρ _ w' hp (fun o ho=>zcq hd o (hmem o ho)) (fun j=>.inl (hpost j))
theorem W.zeo {S:Type} {body:Int→S→(S→Option Unit)→Option Unit} {exit:S→Option Unit} {m0:Nat} {ks left0:List Int} {s0:S} {r:Unit} {c:Code} (H:Sp.zeo body exit m0 ks s0=some r) (hp:ks.Perm left0) (hm:left0.length=m0) (id:Nat) (e:Int→AV)
 (Ls:S→List (Nat×AV)) (Ms:S→List (Nat×Blk)) (hL:Agree (fr L) (Ls s0)) (hM:AgreeM M ((id,.iter e none (fun l=>l=left0))::Ms s0))
 (round:∀ left s,Sp.zeo body exit left.length left s=some r→(∀ k,k∈left→k∈left0)→∀ K:Act→World→Prop,(∀ k left' s',left.Perm (k::left')→Sp.zeo body exit left'.length left' s'=some r→At N C (Ls s') ((id,.iter e (some k) (fun l=>l=left'))::Ms s') g K) →
  W P N rr C c (Ls s) ((id,.iter e none (fun l=>l=left))::Ms s) g (Exit.then K Q)):W P N rr C (.loop c) L M g Q:=by
 refine W.zkf id e (fun left s=>Sp.zeo body exit left.length left s=some r∧∀ k,k∈left→k∈left0) Ls Ms ⟨by rw [← ziS hp,hm];exact H,fun _ h=>h⟩ hL hM (fun left s hJ K hK=>round left s hJ.1 hJ.2 K (fun k left' s' hp' hJ'=>hK k left' s' hp' ⟨hJ',fun j hj=>hJ.2 j (hp'.mem_iff.2 (List.mem_cons_of_mem _ hj))⟩))
end
end Go.Av
end
/- slices.Sort at []int, whose contract the library has, as a function that a slice is lent to. -/
section
set_option linter.all false
namespace Go.Av
open Go Go.Sort Go.Proofs
theorem zo5 {P:Program} {f:FuncId} (hent:Enters P f)
 (hC:∀ (blk off cap:Nat) (zs:List Int) (w:World),Holds (Value.int .i64) w blk off zs.toArray→blk<w.heap.size→zs.length<4611686018427387904 →
  Calls P f #[.slice (some ⟨blk,off,none⟩) zs.length cap] w fun e w'=>e = .returned (.tuple #[])∧∃ n os,w'=grow (putRow (Value.int .i64) (Sort.ahead w n) blk off (zs.mergeSort fun x y=>decide (x≤y)).toArray) os)
 (hN:∀ (p:Option Addr) (cap:Nat) (w:World),Calls P f #[.slice p 0 cap] w fun e w'=>e = .returned (.tuple #[])∧w'=w)
 (ty:Nat) (l:List Int) {r:List Int} (H:Sp.zbV l=some r) :
 CtrO P f [.buf 90000 l.length] [(90000,bufL ty 1 (fun x=>[.int .i64 x]) l)] (.tup []) [(90000,bufL ty 1 (fun x=>[.int .i64 x]) r)]:=by
 unfold Sp.zbV at H
 obtain ⟨hlen,H⟩:=Sp.zaa H
 cases H
 refine ⟨hent,fun h w ρ vs hR hp O=>?_⟩
 obtain ⟨hl,hg⟩:=hR
 match vs,hl with
 | [v],_=>
 have hv:=hg 0 _ v rfl rfl
 obtain ⟨v0,xs,b1,b2,b3,b4,b5⟩:=O.blk 90000 _ rfl
 have:v=v0:=by
  generalize hn:l.length=n at hv
  cases hv with
  | buf _ _ _ n2 sz2 _ v' hb hle h1 he=>rw [b1] at hb;cases hb;exact he hn.symm
 subst this
 have wide:∀ {R:Ending→World→Prop} {args:Array Value},Calls P f args w R→CallsIn (Fw none) 0 P f args w R:=fun hc=>callsIn_wide.2 hc
 have hxs:xs=l.map (Value.int .i64):=by
  have hlx:xs.length=l.length:=by have:=b2.1;omega
  refine List.ext_getElem (by simp [hlx]) (fun i h1 h2=>?_)
  have:=b5 i 0 (.int .i64 (l.getD i default)) xs[i] (by omega) rfl (by rw [Nat.mul_one,Nat.add_zero];exact List.getElem?_eq_getElem h1)
  generalize xs[i]=v at this ⊢
  cases this
  rw [List.getElem_map,List.getD_eq_getElem?_getD,List.getElem?_eq_getElem (by omega)];rfl
 rcases b2.2 with ⟨hnil,hl0⟩|⟨g,cap,cur,rfl,hg0,hcur,q1,q2,q3,q4⟩
 · subst hnil
   have e0:l=[]:=List.length_eq_zero_iff.1 hl0
   subst e0
   refine (wide (hN none 0 w)).mono (fun en w' he=>?_)
   obtain ⟨rfl,rfl⟩:=he
   exact ⟨h,ρ,rfl,rfl,rfl,Nat.le_refl _,fun k _ _=>rfl,fun b o hb=>hb,fun b o hb=>.inl hb,.tup _ _ [] rfl (fun i c v hc=>by simp at hc),⟨O.blk,O.dom,O.own,O.inj⟩,fun id li b q1 q2=>.inl ⟨id,li,q1,q2⟩,fun id li li' q1 q2=>by rw [q1] at q2;cases q2;exact LI.le_refl _⟩
 · have hgs:g<w.heap.size:=zfe hcur
   rw [Nat.mul_one] at q3 q4
   have hold:=holds_of_blockI (ss:=l) hcur (by rw [q4,hxs])
   have hc:=hC g 0 cap l w hold hgs hlen
   refine (wide hc).mono (fun en w' he=>?_)
   obtain ⟨rfl,n,os,rfl⟩:=he
   rw [Sp.zlV]
   obtain ⟨s1,s2,s3,s4,s5⟩:=grownBy_sortedI (w:=w) (g:=g) (n:=n) (os:=os) (Sp.isort l).toArray
   have hin:zcs ρ g:=⟨90000,_,b1,rfl⟩
   refine ⟨h,ρ,s1,s2,s3,s4,fun k hk hn=>s5 k hk (fun e=>hn (by cases e;exact hin)),fun b o hb=>hb,fun b o hb=>.inl hb,.tup _ _ [] rfl (fun i c v hc=>by simp at hc),⟨fun id x hx=>?_,fun id hid=>?_,fun id li b q1 q2=>⟨(O.own id li b q1 q2).1,Nat.lt_of_lt_of_le (O.own id li b q1 q2).2 s4⟩,O.inj⟩,fun id li b q1 q2=>.inl ⟨id,li,q1,q2⟩,fun id li li' q1 q2=>by rw [q1] at q2;cases q2;exact LI.le_refl _⟩
   · have hid:id=90000:=by
      by_cases e:id=90000
      · exact e
      · simp only [mm] at hx;rw [zae _ _ e] at hx;cases hx
     subst hid
     simp only [mm] at hx;rw [zah] at hx;cases hx
     have own:=ownsRow_sortedI (w:=w) (base:=0) (g:=g) (cap:=cap) (n:=n) (os:=os) (ss:=l) (ts:=Sp.isort l) (Sp.zdt l) hg0 hcur q1 q2 (by rw [q3,Nat.mul_one])
     refine ⟨_,(Sp.isort l).map (Value.int .i64),by rw [Sp.zdt];exact b1,by rw [Sp.zdt];exact own,fun i _=>rfl,fun x hx=>?_,fun i j c x hi hc hx=>?_⟩
     · obtain ⟨z,_,rfl⟩:=List.mem_map.1 hx;rfl
     · cases j with
       | succ j=>simp at hc
       | zero=>
        have hc:AV.int .i64 ((Sp.isort l).getD i default)=c:=by simpa using hc
        subst hc
        rw [Nat.mul_one,Nat.add_zero,List.getElem?_map,List.getElem?_eq_getElem hi] at hx
        cases hx
        rw [List.getD_eq_getElem?_getD,List.getElem?_eq_getElem hi]
        exact .int _ _ _
   · refine O.dom id ?_
     by_cases e:id=90000
     · subst e;simp only [mm] at hid;rw [zah] at hid;cases hid
     · simp only [mm];rw [zae _ _ e]
end Go.Av
end
/- Steps in one: two commands of which the first is a region; what reads the same. -/
section
set_option linter.all false
namespace Go.Av
open Go
theorem Sim.q {x y:AV} (h:x=y:=by first|rfl|(simp;done)|omega|(simp;omega)):Sim x y:=.of_eq h
theorem Sim.qi {x y:AV} (h:x=y:=by first|rfl|(simp;done)|omega|(refine intEq ?_;first|omega|(simp;done)|(simp;omega))|(simp;omega)):Sim x y:=.of_eq h
theorem Sim.qb {x y:AV} (h:x=y:=by refine zd8 ?_;first|(simp [Sp.zaE];done)|omega|(simp [Sp.zaE];omega)|(simp only [List.length_set] at *;omega)|rfl):Sim x y:=.of_eq h
theorem Sim.qc {x y:AV} (h:x=y:=by refine zd8 ?_;first|rfl|(simp;done)|omega|(simp;omega)):Sim x y:=.of_eq h
theorem BSim.q {x y:Blk} (h:x=y:=by first|rfl|(simp;done)|omega|(simp;omega)):BSim x y:=.of_eq h
theorem BSim.setS {T:Type} [Inhabited T] {ty sz n:Nat} {f:T→List AV} {e:Nat→List AV} {l:List T} (h:Seg f n e l) {i:Nat} {es:List AV} (x:T) (hs:SimL es (f x)) :
 BSim (.buf ty sz n (fun k=>if k=i then es else e k)) (bufL ty sz f (l.set i x)):=by
 obtain ⟨rfl,h1⟩:=h
 obtain ⟨hl,hss⟩:=hs.spec
 have eln:(l.set i x).length=l.length:=List.length_set
 intro h ρ id w B
 obtain ⟨v,xs,q1,q2,q3,q4,q5⟩:=B
 have hget:∀ k,k<l.length→(l.set i x).getD k default=if k=i then x else l.getD k default:=by
  intro k hk
  simp only [List.getD_eq_getElem?_getD]
  by_cases e:k=i
  · subst e;rw [List.getElem?_set_self hk,if_pos rfl];rfl
  · rw [List.getElem?_set_ne (fun h=>e h.symm),if_neg e]
 refine ⟨v,xs,by rw [eln];exact q1,by rw [eln];exact q2,fun k hk=>?_,q4,fun k j c y hk hc hy=>?_⟩
 · rw [eln] at hk
   have:=q3 k hk
   dsimp only at this ⊢
   rw [hget k hk]
   by_cases ek:k=i
   · rw [if_pos ek] at this ⊢;rw [← hl];exact this
   · rw [if_neg ek] at this ⊢;rw [← h1 k hk];exact this
 · rw [eln] at hk
   have hq:=q5 k j
   dsimp only at hq hc
   rw [hget k hk] at hc
   by_cases ek:k=i
   · rw [if_pos ek] at hc
     have hj:j<es.length:=by rw [hl];exact (List.getElem?_eq_some_iff.1 hc).1
     have h3:es[j]? = some es[j]:=List.getElem?_eq_getElem hj
     exact hss _ _ _ h3 hc _ _ _ (hq _ y hk (by rw [if_pos ek];exact h3) hy)
   · rw [if_neg ek] at hc
     exact hq c y hk (by rw [if_neg ek,h1 k hk];exact hc) hy
variable {P:Program} {Γ:Tys} {N:Nat} {C:Ctx} {L:List (Nat×AV)} {M:List (Nat×Blk)} {g:Nat} {rr:Option Nat} {Q:Exit→Act→World→Prop}
theorem W.sr (E:Env P Γ) {id:Nat} {ops:Array Oper} {draw:Bool} {y:Code} (own:List Nat) (rvs:List RV) {A:Acc} (ts ids:List Nat) {L':List (Nat×AV)} {M':List (Nat×Blk)} (hr:runR Γ own ops.toList ops.toList rvs L M=some A) (hd:zjq N ops.toList=true) (ho:zoI draw ops A.ft=true) (hcs:AllP A.cs)
 (hrq:RqOk P A.rq) (K:W P N rr C y L' M' g Q) (hL:zh4 ids A.L ts=some L':=by exact rfl) (hM:zdE ids A.M ids=some M':=by exact rfl) (hs:zde ids C.savA=true:=by exact rfl) (hz:FzOk own C:=by first|exact .inl rfl|exact .inr (fun _ h=>h)):W P N rr C (.seq (.region id ops draw) y) L M g Q:=
 W.seq (W.region E own rvs hr hd ho hcs hrq (At.keep hL hM (At.zad K) hs) hz)
theorem W.rg (E:Env P Γ) {id:Nat} {ops:Array Oper} {draw:Bool} {y:Code} {A:Acc} (ts ids:List Nat) {L':List (Nat×AV)} {M':List (Nat×Blk)} (K:W P N rr C y L' M' g Q) (hr:runR Γ [] ops.toList ops.toList [] L M=some A:=by exact rfl) (hd:zjq N ops.toList=true:=by exact rfl) (ho:zoI draw ops A.ft=true:=by exact rfl) (hcs:AllP A.cs:=by exact .nil)
 (hrq:RqOk P A.rq:=by exact .nil) (hL:zh4 ids A.L ts=some L':=by exact rfl) (hM:zdE ids A.M ids=some M':=by exact rfl) (hs:zde ids C.savA=true:=by exact rfl):W P N rr C (.seq (.region id ops draw) y) L M g Q:=
 W.sr E [] [] ts ids hr hd ho hcs hrq K hL hM hs (.inl rfl)
end Go.Av
namespace Go.Av
section
variable {N:Nat} {C:Ctx} {L:List (Nat×AV)} {M:List (Nat×Blk)} {g:Nat} {R:Act→World→Prop}
theorem zor {K:List Nat} {M:List (Nat×Blk)}:∀ {is:List Nat} {M'':List (Nat×Blk)},zdE K M is=some M''→∀ i b,mm M'' i=some b→i∈is:=by
 intro is
 induction is with
 | nil=>intro M'' h i b hb;simp only [zdE] at h;cases h;cases hb
 | cons s is ih=>
  intro M'' h i b hb
  simp only [zdE] at h
  split at h
  · cases h
  · split at h
    · split at h
      · rename_i r hr
        cases h
        simp only [mm,upd] at hb
        split at hb
        · rename_i hbe;have:=Nat.eq_of_beq_eq_true hbe;subst this;exact List.mem_cons_self ..
        · exact List.mem_cons_of_mem _ (ih hr i b hb)
      · cases h
    · cases h
theorem At.shrink (t id d:Nat) {n b ty sz n':Nat} {e:Nat→List AV} {K ts:List Nat} {L':List (Nat×AV)} {M':List (Nat×Blk)} (ht:fr L t = .sb id n 0 b) (hM:mm M id=some (.buf ty sz n' e)) (hn:n=n') (hbn:b≤n') (hK:zbc K id=false) (hdK:zbc K d=false) (hL:zh4 K L ts=some L')
 (hMK:zdE K M K=some M') (Kk:At N C ((t,.buf d b)::L') ((d,.buf ty sz b e)::M') g R) (hs:zde K C.savA=true:=by exact rfl):At N C L M g R:=by
 intro h ρ a w I
 subst hn
 obtain ⟨v0,us,k1,k2,k3,k5,k4⟩:=I.blk id _ hM
 obtain ⟨ρ',hρ,I'⟩:=I.forget hL hMK hs
 have hM2:=fun i z=>zor hMK i z
 have hslot:=I.slot t
 rw [ht] at hslot
 obtain ⟨gg,cap,hv0,hv⟩:∃ gg cap,v0 = .slice (some ⟨gg,0,none⟩) n cap∧a.tmps.getD t undef = .slice (some ⟨gg,0,none⟩) b cap:=by
  generalize a.tmps.getD t undef=x at hslot
  cases hslot with
  | sb _ _ _ _ _ n1 sz1 _ v1 hb hle h1 he=>
   rw [k1] at hb;cases hb
   obtain ⟨gg,cap,q1,q2⟩:=he rfl
   refine ⟨gg,cap,q1,?_⟩
   rw [q2]
   split <;> simp
 subst hv0
 have hidK:id ∉ K:=fun hk=>by rw [zer hk] at hK;cases hK
 have hdnK:d ∉ K:=fun hk=>by rw [zer hk] at hdK;cases hdK
 have hinK:∀ i li,ρ' i=some li→i∈K∧ρ i=some li:=fun i li hi=>by
  have hk:i∈K:=by
   cases hz:mm M' i with
   | none=>rw [I'.dom i hz] at hi;cases hi
   | some z=>exact hM2 i z hz
  exact ⟨hk,by rw [← hρ i hk];exact hi⟩
 have hd0:ρ' d=none:=by
  cases hz:ρ' d with
  | none=>rfl
  | some li=>exact absurd (hinK d li hz).1 hdnK
 have hMd:mm M' d=none:=by
  cases hz:mm M' d with
  | none=>rfl
  | some y=>exact absurd (hM2 d y hz) hdnK
 let ρ2:Rho:=upd ρ' d (some (.sl b sz (.slice (some ⟨gg,0,none⟩) b cap)))
 have hd2:ρ2 d=some (.sl b sz (.slice (some ⟨gg,0,none⟩) b cap)):=zah _ _ _
 have hoth:∀ j,j≠d→ρ2 j=ρ' j:=fun j hj=>zae _ _ hj
 have hrl:∀ j l,ρ' j=some l→∃ l',ρ2 j=some l'∧l.le l':=fun j l hj=>by
  have hne:j≠d:=fun e1=>by subst e1;rw [hd0] at hj;cases hj
  exact ⟨l,by rw [hoth j hne];exact hj,.inl rfl⟩
 have hout:∀ i li k,ρ' i=some li→li.owns k→k≠gg:=fun i li k q1 q2 e1=>by
  subst e1
  obtain ⟨hk,q3⟩:=hinK i li q1
  have:=I.inj i id li _ k q3 k1 q2 rfl
  subst this;exact hidK hk
 have hgo:=I.own id _ gg k1 rfl
 have hmul:b * sz≤n * sz:=Nat.mul_le_mul_right _ hbn
 have I2:InvH N C h ρ2 (fr L') (mm ((d,.buf ty sz b e)::M')) g a w:=by
  refine { I' with slot:=fun u=>(I'.slot u).mono (Le.refl _) hrl,sav:=⟨I'.sav.1,fun i c x q1 q2=>(I'.sav.2 i c x q1 q2).mono (Le.refl _) hrl⟩,blk:=fun i x hx=>?_,dom:=fun i hi=>?_,own:=fun i li k q1 q2=>?_,inj:=fun i i' li li' k q1 q1' q2 q2'=>?_,gst:=?_ }
  · simp only [mm] at hx
    by_cases e1:i=d
    · subst e1
      rw [zah] at hx;cases hx
      rcases k2.2 with ⟨q,_⟩|⟨g1,cap1,cur,q,q0,q3,q4,q5,q6,q7⟩
      · cases q
      cases q
      refine ⟨_,us.take (b * sz),hd2,⟨by rw [List.length_take,k2.1];omega,.inr ⟨gg,cap,cur,rfl,q0,q3,Nat.le_trans hbn q4,q5,q6,?_⟩⟩,fun j hj=>k3 j (by omega),fun x hx=>k5 x (List.mem_of_mem_take hx),fun j k c x hj hc hx=>?_⟩
      · rw [← q7,List.take_take,Nat.min_eq_left hmul]
      · rw [List.getElem?_take] at hx
        split at hx
        · exact k4 j k c x (by omega) hc hx
        · cases hx
    · rw [zae _ _ e1] at hx
      exact (I'.blk i x hx).keep (Le.refl _) (hoth i e1) hrl (fun _ _ _ _=>rfl)
  · simp only [mm] at hi
    by_cases e1:i=d
    · subst e1;rw [zah] at hi;cases hi
    · rw [zae _ _ e1] at hi;rw [hoth i e1];exact I'.dom i hi
  · by_cases e1:i=d
    · subst e1
      rw [hd2] at q1;cases q1
      have e2:gg=k:=by have:some gg=some k:=q2;exact Option.some.inj this
      subst e2;exact hgo
    · rw [hoth i e1] at q1;exact I'.own i li k q1 q2
  · have key:∀ k,(LI.sl b sz (.slice (some ⟨gg,0,none⟩) b cap)).owns k→gg=k:=fun k q=>Option.some.inj (show some gg=some k from q)
    by_cases e1:i=d
    · by_cases e2:i'=d
      · rw [e1,e2]
      · rw [e1,hd2] at q1;cases q1
        rw [hoth i' e2] at q1'
        exact absurd (key k q2).symm (hout i' li' k q1' q2')
    · by_cases e2:i'=d
      · rw [e2,hd2] at q1';cases q1'
        rw [hoth i e1] at q1
        exact absurd (key k q2').symm (hout i li k q1 q2)
      · rw [hoth i e1] at q1;rw [hoth i' e2] at q1'
        exact I'.inj i i' li li' k q1 q1' q2 q2'
  · obtain ⟨X,x1,x2,x3⟩:=I.gst
    refine ⟨X,fun k ⟨i,li,q1,q2⟩=>?_,x2,x3⟩
    by_cases e1:i=d
    · subst e1
      rw [hd2] at q1;cases q1
      exact x1 k ⟨id,_,k1,q2⟩
    · rw [hoth i e1] at q1
      exact x1 k ⟨i,li,(hinK i li q1).2,q2⟩
 refine Kk h ρ2 a w { I2 with slot:=fun u=>?_ }
 simp only [fr,put]
 split
 · rename_i hb
   have:=Nat.eq_of_beq_eq_true hb
   subst this
   rw [hv]
   exact .buf _ _ _ _ _ _ _ hd2 (Nat.le_refl _) rfl (fun _=>rfl)
 · exact I2.slot u
end
theorem Seg.cleared {T:Type} [Inhabited T] {f:T→List AV} {n a b:Nat} {e:Nat→List AV} {z:List AV} {l:List T} (h:Seg f n e l) (x:T) (hz:z=f x) (hb:b≤l.length):Seg f n (fun q=>if a≤q∧q<b then z else e q) (Sp.zaE l a (b - a) (fun _=>x)):=by
 obtain ⟨rfl,g1⟩:=h
 subst hz
 refine ⟨by simp [Sp.zaE],fun k hk=>?_⟩
 have:(Sp.zaE l a (b - a) (fun _=>x)).getD k default=if a≤k∧k<a+(b - a) then x else l.getD k default:=by
  simp only [Sp.zaE,List.getD_eq_getElem?_getD,List.getElem?_map,List.getElem?_range hk,Option.map_some,Option.getD_some]
 rw [this]
 dsimp only
 by_cases h:a≤k∧k<b
 · rw [if_pos h,if_pos (by omega)]
 · rw [if_neg h,if_neg (by omega)];exact g1 k hk
theorem Seg.first {T:Type} [Inhabited T] {f:T→List AV} {n b:Nat} {e:Nat→List AV} {l:List T} (h:Seg f n e l) (hb:b≤n):Seg f b e (l.take b):=by
 obtain ⟨rfl,g1⟩:=h
 refine ⟨by rw [List.length_take];omega,fun k hk=>?_⟩
 rw [g1 k (by omega)]
 simp [List.getD_eq_getElem?_getD,List.getElem?_take,hk]
end Go.Av
end
/- Maps that are nil, values of maps read otherwise, maps copied; slices of which it is known whether they are nil. -/
section
set_option linter.all false
namespace Go.Av
open Go.Sp
theorem sbEq {id n n' a a' b b':Nat} (h1:n=n') (h2:a=a') (h3:b=b'):AV.sb id n a b=AV.sb id n' a' b':=by subst h1;subst h2;subst h3;rfl
theorem At.kp {N:Nat} {C:Ctx} {L:List (Nat×AV)} {M:List (Nat×Blk)} {g:Nat} {R:Act→World→Prop} (ts ids:List Nat) {L':List (Nat×AV)} {M':List (Nat×Blk)} (K:At N C L' M' g R) (hL:zh4 ids L ts=some L':=by exact rfl) (hM:zdE ids M ids=some M':=by exact rfl) (hs:zde ids C.savA=true:=by exact rfl):At N C L M g R:=At.keep hL hM K hs
theorem Sim.zgO {T:Type} [Inhabited T] {z:Value} {f:T→AV} {zs:List Value} (hz:z = .agg zs.toArray) (hs:Sim (.agg (zeros zs)) (f default)):Sim .nilMap (romL z f Mp.empty):=by
 subst hz
 intro h ρ v H
 cases H
 exact .romN _ _ _ _ (fun _=>rfl) (fun k=>hs h ρ0 _ (.agg _ _ _ (RelL.zeros h ρ0 zs).1 (RelL.zeros h ρ0 zs).2))
section
variable {T:Type} [Inhabited T] {f:T→AV} {dom:Int→Bool} {e:Int→AV} {n:Nat} {m:Mp T}
def zg0 (f:T→AV) (dom:Int→Bool) (e:Int→AV) (n:Nat) (m:Mp T):Prop:=(∀ k,dom k=(m.get k).isSome)∧(∀ k,Sim (e k) (f ((m.get k).getD default)))∧n=m.card
theorem zg0.refl (f:T→AV) (m:Mp T):zg0 f (fun k=>(m.get k).isSome) (fun k=>f ((m.get k).getD default)) m.card m:=⟨fun _=>rfl,fun _=>.refl _,rfl⟩
theorem zg0.empty {e:AV} (he:Sim e (f default)):zg0 f (fun _=>false) (fun _=>e) 0 Mp.empty:=⟨fun _=>rfl,fun _=>he,rfl⟩
theorem zg0.set (h:zg0 f dom e n m) {q:Int} (x:T) {ex:AV} (hx:Sim ex (f x)) :
 zg0 f (fun j=>decide (j=q) || dom j) (fun j=>bif decide (j=q) then ex else e j) (bif dom q then n else n+1) (m.set q x):=by
 obtain ⟨h1,h2,rfl⟩:=h
 refine ⟨fun k=>?_,fun k=>?_,?_⟩
 · by_cases hk:k=q
   · subst hk;simp [Mp.set]
   · simp [Mp.set,hk,h1]
 · by_cases hk:k=q
   · subst hk;simpa [Mp.set] using hx
   · simpa [Mp.set,hk] using h2 k
 · rw [h1]
   simp only [Mp.set]
   cases (m.get q).isSome <;> rfl
theorem BSim.zn0 {z:Value} (h:zg0 f dom e n m):BSim (.map z dom e n) (mapL z f m):=by
 obtain ⟨h1,h2,rfl⟩:=h
 intro h' ρ id w B
 obtain ⟨b,es,clock,ks,q1,q2,q3,q4,q5,q6,q7,q8,q9,qz,q10⟩:=B
 exact ⟨b,es,clock,ks,q1,q2,q3,q4,q5,q6,q7,q8,fun k=>(by have:=q9 k;rw [h1 k] at this;exact this),fun k hk=>h2 k _ _ _ (qz k ((h1 k).trans hk)),fun i k y hk hy=>h2 k _ _ _ (q10 i k y hk hy)⟩
def zio (z:Value) (f:T→AV) (m:Mp T) (left:List Int):Blk:=
 .map z (fun k=>(m.get k).isSome && !decide (k∈left)) (fun k=>bif decide (k∈left) then f default else f ((m.get k).getD default)) (m.card - left.length)
theorem BSim.zoJ {z:Value} {left:List Int} (hl:left.Nodup∧left.length=m.card∧∀ k,(m.get k).isSome=true↔k∈left):BSim (mapL z f (Mp.empty:Mp T)) (zio z f m left):=by
 refine BSim.map (fun k=>?_) (fun k=>?_) ?_
 · by_cases h:k∈left
   · simp [h,Mp.empty]
   · cases hk:m.get k with
     | none=>simp [Mp.empty]
     | some x=>exact absurd ((hl.2.2 k).1 (by rw [hk];rfl)) h
 · by_cases h:k∈left
   · simp [h,Mp.empty]
   · cases hk:m.get k with
     | none=>simp [Mp.empty]
     | some x=>exact absurd ((hl.2.2 k).1 (by rw [hk];rfl)) h
 · simp [Mp.empty,hl.2.1]
theorem BSim.zqe {z:Value}:BSim (zio z f m []) (mapL z f m):=BSim.map (fun k=>by simp) (fun k=>by simp) (by simp)
theorem BSim.zpB {z:Value} {left left':List Int} {k:Int} (hp:left.Perm (k::left')) (hnd:left.Nodup) (hk:(m.get k).isSome=true) (hlen:left.length≤m.card) :
 BSim (.map z (fun j=>decide (j=k) || ((m.get j).isSome && !decide (j∈left))) (fun j=>bif decide (j=k) then f ((m.get k).getD default) else bif decide (j∈left) then f default else f ((m.get j).getD default)) (bif ((m.get k).isSome && !decide (k∈left)) then m.card - left.length else m.card - left.length+1)) (zio z f m left'):=by
 have hkl:k∈left:=hp.mem_iff.2 (List.mem_cons_self ..)
 have hnk:k ∉ left':=(List.nodup_cons.1 (hp.nodup_iff.1 hnd)).1
 have hj:∀ j,j≠k→(j∈left↔j∈left'):=fun j hne=>by rw [hp.mem_iff];simp [hne]
 refine BSim.map (fun j=>?_) (fun j=>?_) ?_
 · by_cases e:j=k
   · subst e;simp [hnk,hk]
   · simp [e,hj j e]
 · by_cases e:j=k
   · subst e;simp [hnk]
   · simp [e,hj j e]
 · have:=hp.length_eq
   simp at this
   simp [hkl,this]
   omega
end
def encN {T:Type} [Inhabited T] (sz:Nat) (f:T→List AV) (x:List T):List AV:=[.ns x.isEmpty (roL sz f x)]
section
variable {T:Type} [Inhabited T] {f:T→List AV} {sz:Nat}
theorem Sim.nsOf {x:List T} (hx:x.isEmpty=false):Sim (roL sz f x) (.ns x.isEmpty (roL sz f x)):=by
 intro h ρ v H
 refine .ns _ _ _ _ H ⟨fun e=>(by rw [hx] at e;cases e),fun ⟨n,cap,e⟩=>?_⟩
 subst e
 unfold roL at H
 cases H with
 | ro _ _ _ _ a cap hnil=>
  have:=List.eq_nil_of_length_eq_zero (hnil rfl)
  subst this;cases hx
theorem Sim.nsNil {e:Nat→List AV}:Sim .nilS (.ns true (.ro sz 0 e)):=by
 intro h ρ v H
 refine .ns _ _ _ _ (Sim.nil sz e h ρ v H) ⟨fun _=>?_,fun _=>rfl⟩
 cases H
 exact ⟨0,0,rfl⟩
theorem Sim.ofNs {b:Bool} {a:AV}:Sim (.ns b a) a:=by
 intro h ρ v H
 cases H with
 | ns _ _ _ _ hv hn=>exact hv
theorem Sim.roN {l:List (List T)}:Sim (roL 1 (encN sz f) l) (roL 1 (fun x=>[roL sz f x]) l):=by
 intro h ρ v H
 unfold roL at H
 cases H with
 | ro _ _ _ _ a cap hnil hcap hsz hs h1 hc=>
  refine .ro _ _ _ _ _ _ hnil hcap (fun i hi=>rfl) hs h1 (fun i j c v hi hj hv=>?_)
  match j,hj with
  | 0,hj=>
   simp only [List.getElem?_cons_zero,Option.some.injEq] at hj
   subst hj
   exact Sim.ofNs h ρ0 v (hc i 0 _ v hi rfl hv)
  | j+1,hj=>simp at hj
theorem BSim.madeN {ty n:Nat}:BSim (.buf ty 1 n (fun _=>[.nilS])) (bufL ty 1 (encN sz f) (List.replicate n ([]:List T))):=by
 have e1:bufL ty 1 (encN sz f) (List.replicate n ([]:List T)) = .buf ty 1 n (fun _=>encN sz f []):=by
  unfold bufL
  have:(fun i=>encN sz f ((List.replicate n ([]:List T)).getD i default))=fun _=>encN sz f []:=by
   funext i
   by_cases hi:i<n
   · simp [List.getD_eq_getElem?_getD,hi]
   · simp [List.getD_eq_getElem?_getD,hi];rfl
  rw [this,List.length_replicate]
 rw [e1]
 intro h ρ id w B
 obtain ⟨v,xs,q1,q2,q3,q4,q5⟩:=B
 refine ⟨v,xs,q1,q2,fun i hi=>rfl,q4,fun i j c x hi hc hx=>?_⟩
 match j,hc with
 | 0,hc=>
  simp only [encN,List.getElem?_cons_zero,Option.some.injEq] at hc
  subst hc
  exact Sim.nsNil h ρ0 x (q5 i 0 _ x hi rfl hx)
 | j+1,hc=>simp [encN] at hc
end
end Go.Av
end
