/- Texts of the framework, or of the plain law, one behind another. -/
import Derived.Test.YtakjeajlmlmkeaaGreatFr3
import Derived.Test.YtakjeajlmlmkeaaGreatFr1
import Derived.Shelf.Sort.Plain
import Derived.Shelf.Slices.In.SortNone
import Derived.Sort.OwnSortedInts
import Derived.KernelRfl
import Derived.ProofKit
import Derived.OpenShut
import Derived.ReadAgain
import Derived.ChangeStays
import Derived.SizedLaws
import Derived.Carry
import Derived.Below
import Derived.ChangeSame
/- Cells that are only read from now on, wherever they are named. -/
section
set_option linter.all false
namespace Go.Av
mutual
/-- A value in which a name of cells is read as what they are. -/
def fc (id:Nat) (cs0:List AV) (K:List Nat):AV→Option AV
 | .lp i off=>match Nat.beq i id with
  | true=>match zdJ off cs0 with
   | some r=>some (.rp r)
   | none=>none
  | false=>match zbf K i with
   | true=>some (.lp i off)
   | false=>none
 | .agg cs=>match fcL id cs0 K cs with
  | some cs'=>some (.agg cs')
  | none=>none
 | .tup cs=>match fcL id cs0 K cs with
  | some cs'=>some (.tup cs')
  | none=>none
 | .fn f fs cs=>match fcL id cs0 K fs with
  | some fs'=>match fcL id cs0 K cs with
   | some cs'=>some (.fn f fs' cs')
   | none=>none
  | none=>none
 | v=>match zas K v with
  | true=>some v
  | false=>none
def fcL (id:Nat) (cs0:List AV) (K:List Nat):List AV→Option (List AV)
 | []=>some []
 | c::cs=>match fc id cs0 K c with
  | some c'=>match fcL id cs0 K cs with
   | some cs'=>some (c'::cs')
   | none=>none
  | none=>none
end
theorem zqi {id:Nat} {cs0:List AV} {K:List Nat} {x y:AV} (h:fc id cs0 K x=some y) (h1:∀ i n,x ≠ .lp i n) (h2:∀ cs,x ≠ .agg cs) (h3:∀ cs,x ≠ .tup cs) (h4:∀ f fs cs,x ≠ .fn f fs cs):zas K x=true∧y=x:=by
 cases x <;> first|exact absurd rfl (h1 _ _)|exact absurd rfl (h2 _)|exact absurd rfl (h3 _)|exact absurd rfl (h4 _ _ _)|(simp only [fc] at h;split at h <;> cases h;exact ⟨by assumption,rfl⟩)
theorem zig {id:Nat} {cs0:List AV} {K:List Nat}:∀ {cs cs':List AV},fcL id cs0 K cs=some cs'→cs'.length=cs.length ∧
 ∀ (i:Nat) (c':AV),cs'[i]? = some c'→∃ c,cs[i]? = some c∧fc id cs0 K c=some c'
 | [],cs',h=>by
  simp only [fcL] at h;cases h
  exact ⟨rfl,fun i c' hc=>(by simp at hc)⟩
 | c::cs,cs',h=>by
  simp only [fcL] at h
  split at h
  · rename_i d hd
    split at h
    · rename_i ds hds
      cases h
      obtain ⟨h1,h2⟩:=zig hds
      refine ⟨by simp [h1],fun i c' hc=>?_⟩
      cases i with
      | zero=>simp at hc;subst hc;exact ⟨c,rfl,hd⟩
      | succ i=>
       obtain ⟨c0,e1,e2⟩:=h2 i c' (by simpa using hc)
       exact ⟨c0,by simpa using e1,e2⟩
    · cases h
  · cases h
theorem Rel.fc {h h':Hp} {ρ ρ':Rho} {id b0:Nat} {cs0:List AV} {K:List Nat} (hle:Le h h') (hρ:∀ i,i∈K→ρ' i=ρ i) (hid:ρ id=some (.blk b0))
 (hr:∀ off r,zdJ off cs0=some r→Rel h' ρ' (.rp r) (.pointer (some ⟨b0,off,none⟩))) {x:AV} {v:Value} (H:Rel h ρ x v) :
 ∀ {y:AV},Go.Av.fc id cs0 K x=some y→Rel h' ρ' y v:=by
 obtain ⟨h9,hh,H'⟩:∃ h9,h=h9∧Rel h9 ρ x v:=⟨h,rfl,H⟩
 clear H
 induction H' with
 | lp ρ i off b hb=>
  intro y hy
  simp only [Go.Av.fc] at hy
  split at hy
  · rename_i hi
    have:=Nat.eq_of_beq_eq_true hi
    subst this
    rw [hid] at hb;cases hb
    split at hy
    · rename_i r hd
      cases hy
      exact hr off r hd
    · cases hy
  · split at hy
    · rename_i hk
      cases hy
      exact .lp _ _ _ _ ((hρ i (zaw hk)).trans hb)
    · cases hy
 | agg ρ cs vs hl hc ih=>
  intro y hy
  simp only [Go.Av.fc] at hy
  split at hy
  · rename_i cs' hcs
    cases hy
    obtain ⟨e1,e2⟩:=zig hcs
    refine .agg _ _ _ (by rw [hl,e1]) fun i c v h1 h2=>?_
    obtain ⟨c0,k1,k2⟩:=e2 i c h1
    exact ih i c0 v k1 h2 hρ hid hh k2
  · cases hy
 | tup ρ cs vs hl hc ih=>
  intro y hy
  simp only [Go.Av.fc] at hy
  split at hy
  · rename_i cs' hcs
    cases hy
    obtain ⟨e1,e2⟩:=zig hcs
    refine .tup _ _ _ (by rw [hl,e1]) fun i c v h1 h2=>?_
    obtain ⟨c0,k1,k2⟩:=e2 i c h1
    exact ih i c0 v k1 h2 hρ hid hh k2
  · cases hy
 | fn ρ f fs cs vs ws hl hm hc hd ih1 ih2=>
  intro y hy
  simp only [Go.Av.fc] at hy
  split at hy
  · rename_i fs' hfs
    split at hy
    · rename_i cs' hcs
      cases hy
      obtain ⟨e1,e2⟩:=zig hfs
      obtain ⟨e3,e4⟩:=zig hcs
      refine .fn _ _ _ _ _ _ (by rw [hl,e1]) (by rw [hm,e3]) (fun i c v h1 h2=>?_) (fun i c v h1 h2=>?_)
      · obtain ⟨c0,k1,k2⟩:=e2 i c h1
        exact ih1 i c0 v k1 h2 hρ hid hh k2
      · obtain ⟨c0,k1,k2⟩:=e4 i c h1
        exact ih2 i c0 v k1 h2 hρ hid hh k2
    · cases hy
  · cases hy
 | _=>
  intro y hy
  obtain ⟨ho,rfl⟩:=zqi hy (fun _ _ e=>by cases e) (fun _ e=>by cases e) (fun _ e=>by cases e) (fun _ _ _ e=>by cases e)
  subst hh
  refine Rel.forget hρ (Rel.heap ?_ hle) ho
  first|(constructor <;> assumption)|(constructor;done)
def fcS (id:Nat) (cs0:List AV) (K:List Nat) (L:List (Nat×AV)):List Nat→Option (List (Nat×AV))
 | []=>some []
 | t::ts=>match zgS L t with
  | some x=>match fc id cs0 K x with
   | some y=>match fcS id cs0 K L ts with
    | some L'=>some ((t,y)::L')
    | none=>none
   | none=>none
  | none=>none
def fcB (id:Nat) (cs0:List AV) (K:List Nat):Blk→Option Blk
 | .cells cs=>match fcL id cs0 K cs with
  | some cs'=>some (.cells cs')
  | none=>none
 | b=>match zeB K b with
  | true=>some b
  | false=>none
def fcM (id:Nat) (cs0:List AV) (K:List Nat) (M:List (Nat×Blk)):List Nat→Option (List (Nat×Blk))
 | []=>some []
 | t::ts=>match mm M t with
  | some x=>match fcB id cs0 K x with
   | some y=>match fcM id cs0 K M ts with
    | some M'=>some ((t,y)::M')
    | none=>none
   | none=>none
  | none=>none
theorem znz {id:Nat} {cs0:List AV} {K:List Nat} {L:List (Nat×AV)}:∀ {ts:List Nat} {L':List (Nat×AV)},fcS id cs0 K L ts=some L' →
 ∀ t,fr L' t = .any∨fc id cs0 K (fr L t)=some (fr L' t)
 | [],L',h,t=>by simp only [fcS] at h;cases h;exact .inl rfl
 | u::ts,L',h,t=>by
  simp only [fcS] at h
  split at h
  · rename_i x hx
    split at h
    · rename_i y hy
      split at h
      · rename_i L2 h2
        cases h
        simp only [fr,put]
        split
        · rename_i hb
          have:=Nat.eq_of_beq_eq_true hb
          subst this
          rw [zhH hx]
          exact .inr hy
        · exact znz h2 t
      · cases h
    · cases h
  · cases h
theorem znA {id:Nat} {cs0:List AV} {K:List Nat} {M:List (Nat×Blk)}:∀ {ts:List Nat} {M':List (Nat×Blk)},fcM id cs0 K M ts=some M' →
 (∀ t,t∈ts→(mm M' t).isSome=true)∧∀ t y,mm M' t=some y→t∈ts∧∃ x,mm M t=some x∧fcB id cs0 K x=some y
 | [],M',h=>by simp only [fcM] at h;cases h;exact ⟨fun t ht=>(by cases ht),fun t y hy=>(by cases hy)⟩
 | u::ts,M',h=>by
  simp only [fcM] at h
  split at h
  · rename_i x hx
    split at h
    · rename_i y hy
      split at h
      · rename_i L2 h2
        cases h
        obtain ⟨k1,k2⟩:=znA h2
        refine ⟨fun t ht=>?_,fun t z hz=>?_⟩
        · simp only [mm]
          by_cases e:t=u
          · subst e;rw [zaf];rfl
          · rw [zae _ _ e]
            exact k1 t ((List.mem_cons.1 ht).resolve_left e)
        · simp only [mm] at hz
          by_cases e:t=u
          · subst e;rw [zaf] at hz;cases hz
            exact ⟨List.mem_cons_self ..,x,hx,hy⟩
          · rw [zae _ _ e] at hz
            obtain ⟨e0,x2,e1,e2⟩:=k2 t z hz
            exact ⟨List.mem_cons_of_mem _ e0,x2,e1,e2⟩
      · cases h
    · cases h
  · cases h
section
variable {N:Nat} {C:Ctx} {L:List (Nat×AV)} {M:List (Nat×Blk)} {g:Nat} {R:Act→World→Prop}
theorem At.zmH (id:Nat) {cs0:List AV} {K ts:List Nat} {L':List (Nat×AV)} {M':List (Nat×Blk)} (hM:mm M id=some (.cells cs0)) (hcl:clL cs0=true) (hK:zbf K id=false)
 (hL:fcS id cs0 K L ts=some L') (hMK:fcM id cs0 K M K=some M')
 (hbor:∀ b,¬ C.bor b) (Kk:At N C L' M' g R) (hs:zdh K C.savA=true:=by rfl):At N C L M g R:=by
 intro h ρ a w I
 obtain ⟨b0,us,ty,k1,k2,k3,k4⟩:=I.blk id _ hM
 obtain ⟨m1,m2⟩:=znA hMK
 have hidK:id ∉ K:=fun hk=>by rw [zeH hk] at hK;cases hK
 classical
 let h':Hp:=fun b=>if b=b0 then w.heap[b]? else h b
 let ρ':Rho:=fun i=>if i∈K then ρ i else none
 have hρ:∀ i,i∈K→ρ' i=ρ i:=fun i hi=>if_pos hi
 have hρ':∀ i li,ρ' i=some li→i∈K∧ρ i=some li:=fun i li hi=>by
  have:(if i∈K then ρ i else none)=some li:=hi
  split at this
  · exact ⟨by assumption,this⟩
  · cases this
 have hin:h' b0=w.heap[b0]? := if_pos rfl
 have hle:∀ b o,h b=some o→h' b=some o:=by
  intro b o hb
  show (if b=b0 then w.heap[b]? else h b)=some o
  split
  · exact I.hp b o hb
  · exact hb
 have hge:C.w0.heap.size≤b0:=(I.own id _ b0 k1 rfl).2.2.resolve_right (hbor b0)
 have hnew:∀ b o,h' b=some o→(b=b0∧w.heap[b]? = some o)∨h b=some o:=by
  intro b o hb
  have:(if b=b0 then w.heap[b]? else h b)=some o:=hb
  split at this
  · exact .inl ⟨by assumption,this⟩
  · exact .inr this
 have key:∀ off j,cellOf h' (Addr.add ⟨b0,off,none⟩ j)=us[off+j]? := by
  intro off j
  unfold cellOf
  rw [Addr.add_lit]
  simp only [hin,k2]
  simp
 have hr:∀ off r,zdJ off cs0=some r→Rel h' ρ' (.rp r) (.pointer (some ⟨b0,off,none⟩)):=by
  intro off r hd
  obtain ⟨rfl,hlo⟩:=zc3 hd
  refine .rp _ _ _ (fun j hj=>?_) (fun j y z hy hz=>?_)
  · rw [key]
    have:off+j<us.length:=by rw [k3];simp at hj;omega
    simp [this]
  · rw [key] at hz
    rw [List.getElem?_drop] at hy
    exact ((k4 _ y z hy hz).heap (Le.of hle)).zdO (ze6 hcl hy)
 refine Kk h' ρ' a w { I with slot:=fun t=>?_,sav:=⟨I.sav.1,fun i c x h1 h2=>((I.sav.2 i c x h1 h2).heap (Le.of hle)).forget hρ (za1 hs h1)⟩,hp:=fun b o hb=>?_,blk:=fun i y hy=>?_,dom:=fun i hi=>?_,own:=fun i li b q1 q2=>?_,inj:=fun i i' li li' b q1 q1' q2 q2'=>I.inj i i' li li' b (hρ' _ _ q1).2 (hρ' _ _ q1').2 q2 q2',ext:=fun b o hb=>hle b o (I.ext b o hb),old:=fun b o hb hlt=>?_,gst:=?_,dfr:=?_ }
 · rcases znz hL t with e1|e1
   · rw [e1];exact .any _ _
   · exact Rel.fc (Le.of hle) hρ k1 hr (I.slot t) e1
 · rcases hnew b o hb with q|q
   · exact q.2
   · exact I.hp b o q
 · obtain ⟨hik,x,e1,e2⟩:=m2 i y hy
   have H:=I.blk i x e1
   have other:∀ z,zeB K z=true→zbN h ρ i z w→zbN h' ρ' i z w:=fun z ho Hz=>((Hz.keep (Le.of hle) rfl (zcU _) (fun _ _ _ _=>rfl)).forget hρ hik ho)
   cases x with
   | cells cs=>
    simp only [fcB] at e2
    split at e2
    · rename_i cs' hcs
      cases e2
      obtain ⟨b,vs,ty',z1,z2,z3,z4⟩:=H
      obtain ⟨l1,l2⟩:=zig hcs
      refine ⟨b,vs,ty',(hρ i hik).trans z1,z2,by rw [z3,l1],fun j c u hc hu=>?_⟩
      obtain ⟨c0,y1,y2⟩:=l2 j c hc
      exact Rel.fc (Le.of hle) hρ k1 hr (z4 j c0 u y1 hu) y2
    · cases e2
   | _=>
    simp only [fcB] at e2
    split at e2
    · rename_i ho
      cases e2
      exact other _ ho H
    · cases e2
 · cases hq:ρ' i with
   | none=>rfl
   | some li=>
    have:=m1 i (hρ' i li hq).1
    rw [hi] at this;cases this
 · obtain ⟨q3,q4⟩:=hρ' i li q1
   obtain ⟨z1,z2,z3⟩:=I.own i li b q4 q2
   refine ⟨?_,z2,z3⟩
   show (if b=b0 then w.heap[b]? else h b)=none
   rw [if_neg (fun (hv:b=b0)=>hidK ((I.inj i id li _ b q4 k1 q2 (hv▸(rfl:LI.owns (.blk b0) b0)))▸q3))]
   exact z1
 · rcases hnew b o hb with q|q
   · rw [q.1] at hlt;exact absurd hlt (Nat.not_lt.2 hge)
   · exact I.old b o q hlt
 · obtain ⟨X,x1,x2,x3⟩:=I.gst
   refine ⟨X,fun b ⟨i,li,q1,q2⟩=>x1 b ⟨i,li,(hρ' i li q1).2,q2⟩,fun b o hb=>?_,x3⟩
   rcases hnew b o hb with q|q
   · exact .inr (x1 b ⟨id,_,k1,q.1▸rfl⟩)
   · exact x2 b o q
 · obtain ⟨Ds,hd1,hd2,hd3⟩:=I.dfr
   exact ⟨Ds,hd1,hd2,fun D hD=>⟨hle _ _ (hd3 D hD).1,(hd3 D hD).2⟩⟩
end
theorem Sim.fnClo {f:Fn} {fs cs:List AV} (h:(clL fs && clL cs)=true):Sim (.fn f fs cs) (.clo f fs cs):=by
 intro h' ρ v H
 exact .clo _ _ _ _ _ (H.zdO (by simpa [AV.cl] using h))
end Go.Av
end
/- Maps of owned slices: one of these is taken out, and put back; the map alone is only read; then all of it. A map is only read from now on. -/
section
set_option linter.all false
namespace Go.Av
open Go.Sp
section
variable {N:Nat} {C:Ctx} {h:Hp} {ρ:Rho} {F:Fr} {M:Mm} {g:Nat} {a:Act} {w:World}
open Classical in
noncomputable def frzHp (h:Hp) (S:Nat→Prop) (w:World):Hp:=fun b=>if S b then w.heap[b]? else h b
theorem zhE (I:InvH N C h ρ F M g a w) (S:Nat→Prop):∀ b o,h b=some o→frzHp h S w b=some o:=by
 intro b o hb
 unfold frzHp
 split
 · exact I.hp b o hb
 · exact hb
theorem zkT {S:Nat→Prop} {b:Nat} (hb:S b):frzHp h S w b=w.heap[b]? := if_pos hb
theorem zhe {S:Nat→Prop} {b:Nat} {o:Obj} (hb:frzHp h S w b=some o):(S b∧w.heap[b]? = some o)∨h b=some o:=by
 unfold frzHp at hb
 split at hb
 · exact .inl ⟨by assumption,hb⟩
 · exact .inr hb
theorem InvH.zif (I:InvH N C h ρ F M g a w) {id id2:Nat} {li0:LI} {K:List Nat} {S:Nat→Prop} {F':Fr} {M':Mm} {ρ':Rho} (k1:ρ id=some li0) (hidK:id ∉ K) (hid2:id2 ∉ K) (hS:∀ b,S b→li0.owns b) (hbor:∀ b,¬ C.bor b) (hs:zdh K C.savA=true)
 (hρ:∀ i,i∈K→ρ' i=ρ i) (hρ':∀ i li,ρ' i=some li→(i∈K∧ρ i=some li)∨(i=id2∧∀ b,li.owns b→li0.owns b∧¬ S b))
 (hF:∀ t,Rel (frzHp h S w) ρ' (F' t) (a.tmps.getD t undef)) (hB:∀ i y,M' i=some y→zbN (frzHp h S w) ρ' i y w) (hD:∀ i,M' i=none→ρ' i=none):InvH N C (frzHp h S w) ρ' F' M' g a w:=by
 have hle:=zhE I S
 refine { I with slot:=hF,sav:=⟨I.sav.1,fun i c x h1 h2=>((I.sav.2 i c x h1 h2).heap (Le.of hle)).forget hρ (za1 hs h1)⟩,hp:=fun b o hb=>?_,blk:=hB,dom:=hD,own:=fun i li b q1 q2=>?_,inj:=fun i i' li li' b q1 q1' q2 q2'=>?_,ext:=fun b o hb=>hle b o (I.ext b o hb),old:=fun b o hb hlt=>?_,gst:=?_,dfr:=?_ }
 · rcases zhe hb with q|q
   · exact q.2
   · exact I.hp b o q
 · have none_of:h b=none→¬ S b→frzHp h S w b=none:=fun h1 h2=>by unfold frzHp;rw [if_neg h2];exact h1
   rcases hρ' i li q1 with ⟨q3,q4⟩|⟨q3,q4⟩
   · obtain ⟨z1,z2,z3⟩:=I.own i li b q4 q2
     exact ⟨none_of z1 (fun hv=>hidK ((I.inj i id li _ b q4 k1 q2 (hS b hv))▸q3)),z2,z3⟩
   · obtain ⟨z1,z2,z3⟩:=I.own id li0 b k1 (q4 b q2).1
     exact ⟨none_of z1 (q4 b q2).2,z2,z3⟩
 · rcases hρ' i li q1 with ⟨q3,q4⟩|⟨q3,q4⟩ <;> rcases hρ' i' li' q1' with ⟨q3',q4'⟩|⟨q3',q4'⟩
   · exact I.inj i i' li li' b q4 q4' q2 q2'
   · exact absurd ((I.inj i id li li0 b q4 k1 q2 (q4' b q2').1)▸q3) hidK
   · exact absurd ((I.inj i' id li' li0 b q4' k1 q2' (q4 b q2).1)▸q3') hidK
   · rw [q3,q3']
 · rcases zhe hb with q|q
   · exact absurd hlt (Nat.not_lt.2 ((I.own id _ b k1 (hS b q.1)).2.2.resolve_right (hbor b)))
   · exact I.old b o q hlt
 · obtain ⟨X,x1,x2,x3⟩:=I.gst
   refine ⟨X,fun b ⟨i,li,q1,q2⟩=>?_,fun b o hb=>?_,x3⟩
   · rcases hρ' i li q1 with ⟨q3,q4⟩|⟨q3,q4⟩
     · exact x1 b ⟨i,li,q4,q2⟩
     · exact x1 b ⟨id,li0,k1,(q4 b q2).1⟩
   · rcases zhe hb with q|q
     · exact .inr (x1 b ⟨id,_,k1,hS b q.1⟩)
     · exact x2 b o q
 · obtain ⟨Ds,hd1,hd2,hd3⟩:=I.dfr
   exact ⟨Ds,hd1,hd2,fun D hD=>⟨hle _ _ (hd3 D hD).1,(hd3 D hD).2⟩⟩
theorem zbN.frz (I:InvH N C h ρ F M g a w) {S:Nat→Prop} {K:List Nat} {ρ':Rho} (hρ:∀ i,i∈K→ρ' i=ρ i) {i:Nat} {z:Blk} (hik:i∈K) (ho:zeB K z=true) (Hz:zbN h ρ i z w):zbN (frzHp h S w) ρ' i z w:=
 (Hz.keep (Le.of (zhE I S)) rfl (zcU _) (fun _ _ _ _=>rfl)).forget hρ hik ho
end
mutual
def fm (id:Nat) (r:AV) (K:List Nat):AV→Option AV
 | .mp i=>match Nat.beq i id with
  | true=>some r
  | false=>match zbf K i with
   | true=>some (.mp i)
   | false=>none
 | .agg cs=>match fmL id r K cs with
  | some cs'=>some (.agg cs')
  | none=>none
 | .tup cs=>match fmL id r K cs with
  | some cs'=>some (.tup cs')
  | none=>none
 | v=>match zas K v with
  | true=>some v
  | false=>none
def fmL (id:Nat) (r:AV) (K:List Nat):List AV→Option (List AV)
 | []=>some []
 | c::cs=>match fm id r K c with
  | some c'=>match fmL id r K cs with
   | some cs'=>some (c'::cs')
   | none=>none
  | none=>none
end
theorem zqg {id:Nat} {r:AV} {K:List Nat} {x y:AV} (h:fm id r K x=some y) (h1:∀ i,x ≠ .mp i) (h2:∀ cs,x ≠ .agg cs) (h3:∀ cs,x ≠ .tup cs):zas K x=true∧y=x:=by
 cases x <;> first|exact absurd rfl (h1 _)|exact absurd rfl (h2 _)|exact absurd rfl (h3 _)|(simp only [fm] at h;split at h <;> cases h;exact ⟨by assumption,rfl⟩)
theorem zkV {id:Nat} {r:AV} {K:List Nat}:∀ {cs cs':List AV},fmL id r K cs=some cs'→cs'.length=cs.length ∧
 ∀ (i:Nat) (c':AV),cs'[i]? = some c'→∃ c,cs[i]? = some c∧fm id r K c=some c'
 | [],cs',h=>by
  simp only [fmL] at h;cases h
  exact ⟨rfl,fun i c' hc=>(by simp at hc)⟩
 | c::cs,cs',h=>by
  simp only [fmL] at h
  split at h
  · rename_i d hd
    split at h
    · rename_i ds hds
      cases h
      obtain ⟨h1,h2⟩:=zkV hds
      refine ⟨by simp [h1],fun i c' hc=>?_⟩
      cases i with
      | zero=>simp at hc;subst hc;exact ⟨c,rfl,hd⟩
      | succ i=>simpa using h2 i c' (by simpa using hc)
    · cases h
  · cases h
theorem Rel.fm {h h':Hp} {ρ ρ':Rho} {id b0:Nat} {r:AV} {K:List Nat} (hle:Le h h') (hρ:∀ i,i∈K→ρ' i=ρ i) {li0:LI} (hid:ρ id=some li0) (hb0:li0.mapb=some b0) (hr:Rel h' ρ' r (.map (some b0))) {x:AV} {v:Value} (H:Rel h ρ x v) :
 ∀ {y:AV},Go.Av.fm id r K x=some y→Rel h' ρ' y v:=by
 obtain ⟨h9,hh,H'⟩:∃ h9,h=h9∧Rel h9 ρ x v:=⟨h,rfl,H⟩
 clear H
 induction H' with
 | mp ρ i li b hb hm=>
  intro y hy
  simp only [Go.Av.fm] at hy
  split at hy
  · rename_i hi
    cases hy
    have:=Nat.eq_of_beq_eq_true hi
    subst this
    rw [hid] at hb;cases hb;rw [hb0] at hm;cases hm
    exact hr
  · split at hy
    · rename_i hk
      cases hy
      exact .mp _ _ _ _ ((hρ i (zaw hk)).trans hb) hm
    · cases hy
 | agg ρ cs vs hl hc ih=>
  intro y hy
  simp only [Go.Av.fm] at hy
  split at hy
  · rename_i cs' hcs
    cases hy
    obtain ⟨e1,e2⟩:=zkV hcs
    refine .agg _ _ _ (by rw [hl,e1]) fun i c v h1 h2=>?_
    obtain ⟨c0,k1,k2⟩:=e2 i c h1
    exact ih i c0 v k1 h2 hρ hid hh k2
  · cases hy
 | tup ρ cs vs hl hc ih=>
  intro y hy
  simp only [Go.Av.fm] at hy
  split at hy
  · rename_i cs' hcs
    cases hy
    obtain ⟨e1,e2⟩:=zkV hcs
    refine .tup _ _ _ (by rw [hl,e1]) fun i c v h1 h2=>?_
    obtain ⟨c0,k1,k2⟩:=e2 i c h1
    exact ih i c0 v k1 h2 hρ hid hh k2
  · cases hy
 | _=>
  intro y hy
  obtain ⟨ho,rfl⟩:=zqg hy (fun _ e=>by cases e) (fun _ e=>by cases e) (fun _ e=>by cases e)
  subst hh
  refine Rel.forget hρ (Rel.heap ?_ hle) ho
  first|(constructor <;> assumption)|(constructor;done)
def fmS (id:Nat) (r:AV) (K:List Nat) (L:List (Nat×AV)):List Nat→Option (List (Nat×AV))
 | []=>some []
 | t::ts=>match zgS L t with
  | some x=>match fm id r K x with
   | some y=>match fmS id r K L ts with
    | some L'=>some ((t,y)::L')
    | none=>none
   | none=>none
  | none=>none
theorem zkU {id:Nat} {r:AV} {K:List Nat} {L:List (Nat×AV)}:∀ {ts:List Nat} {L':List (Nat×AV)},fmS id r K L ts=some L' →
 ∀ t,fr L' t = .any∨fm id r K (fr L t)=some (fr L' t)
 | [],L',h,t=>by simp only [fmS] at h;cases h;exact .inl rfl
 | u::ts,L',h,t=>by
  simp only [fmS] at h
  split at h
  · rename_i x hx
    split at h
    · rename_i y hy
      split at h
      · rename_i L2 h2
        cases h
        simp only [fr,put]
        split
        · rename_i hb
          have:=Nat.eq_of_beq_eq_true hb
          subst this
          rw [zhH hx]
          exact .inr hy
        · exact zkU h2 t
      · cases h
    · cases h
  · cases h
def fmB (id:Nat) (r:AV) (K:List Nat):Blk→Option Blk
 | .cells cs=>match fmL id r K cs with
  | some cs'=>some (.cells cs')
  | none=>none
 | b=>match zeB K b with
  | true=>some b
  | false=>none
def fmM (id:Nat) (r:AV) (K:List Nat) (M:List (Nat×Blk)):List Nat→Option (List (Nat×Blk))
 | []=>some []
 | t::ts=>match mm M t with
  | some x=>match fmB id r K x with
   | some y=>match fmM id r K M ts with
    | some M'=>some ((t,y)::M')
    | none=>none
   | none=>none
  | none=>none
theorem znx {id:Nat} {r:AV} {K:List Nat} {M:List (Nat×Blk)}:∀ {ts:List Nat} {M':List (Nat×Blk)},fmM id r K M ts=some M' →
 (∀ t,t∈ts→(mm M' t).isSome=true)∧∀ t y,mm M' t=some y→t∈ts∧∃ x,mm M t=some x∧fmB id r K x=some y
 | [],M',h=>by simp only [fmM] at h;cases h;exact ⟨fun t ht=>(by cases ht),fun t y hy=>(by cases hy)⟩
 | u::ts,M',h=>by
  simp only [fmM] at h
  split at h
  · rename_i x hx
    split at h
    · rename_i y hy
      split at h
      · rename_i L2 h2
        cases h
        obtain ⟨k1,k2⟩:=znx h2
        refine ⟨fun t ht=>?_,fun t z hz=>?_⟩
        · simp only [mm]
          by_cases e:t=u
          · subst e;rw [zaf];rfl
          · rw [zae _ _ e]
            exact k1 t ((List.mem_cons.1 ht).resolve_left e)
        · simp only [mm] at hz
          by_cases e:t=u
          · subst e;rw [zaf] at hz;cases hz
            exact ⟨List.mem_cons_self ..,x,hx,hy⟩
          · rw [zae _ _ e] at hz
            obtain ⟨e0,x2,e1,e2⟩:=k2 t z hz
            exact ⟨List.mem_cons_of_mem _ e0,x2,e1,e2⟩
      · cases h
    · cases h
  · cases h
section
variable {N:Nat} {C:Ctx} {L:List (Nat×AV)} {M:List (Nat×Blk)} {g:Nat} {R:Act→World→Prop}
theorem zl1 {ids:List Nat} {M:List (Nat×Blk)}:∀ {is:List Nat} {M':List (Nat×Blk)},zdA ids M is=some M'→∀ {i:Nat},i ∉ is→mm M' i=none:=by
 intro is
 induction is with
 | nil=>intro M' h i _;simp only [zdA] at h;cases h;rfl
 | cons s is ih=>
  intro M' h i hi
  simp only [zdA] at h
  split at h
  · cases h
  · split at h
    · split at h
      · rename_i r hr
        cases h
        simp only [mm]
        rw [zae _ _ (fun e=>hi (by rw [e];exact List.mem_cons_self ..))]
        exact ih hr (fun hm=>hi (List.mem_cons_of_mem _ hm))
      · cases h
    · cases h
theorem zfB {K:List Nat} {i:Nat} (h:zbf K i=false):i ∉ K:=fun hk=>by rw [zeH hk] at h;cases h
theorem At.zmG (id:Nat) {z:Value} {dom:Int→Bool} {e:Int→AV} {n:Nat} {K ts:List Nat} {L':List (Nat×AV)} {M':List (Nat×Blk)} (hM:mm M id=some (.map z dom e n)) (hK:zbf K id=false)
 (hL:fmS id (.rom z dom e n) K L ts=some L') (hMK:fmM id (.rom z dom e n) K M K=some M') (hbor:∀ b,¬ C.bor b) (Kk:At N C L' M' g R) (hs:zdh K C.savA=true:=by rfl):At N C L M g R:=by
 intro h ρ a w I
 obtain ⟨b0,es,clock,ks,k1,k2,k3,k4,k5,k6,k7,k8,k9,kz,k10⟩:=I.blk id _ hM
 obtain ⟨m1,m2⟩:=znx hMK
 have hidK:=zfB hK
 let ρ':Rho:=fun i=>if i∈K then ρ i else none
 have hρ:∀ i,i∈K→ρ' i=ρ i:=fun i hi=>if_pos hi
 have hρ':∀ i li,ρ' i=some li→i∈K∧ρ i=some li:=fun i li hi=>by
  have:(if i∈K then ρ i else none)=some li:=hi
  split at this
  · exact ⟨by assumption,this⟩
  · cases this
 have hle:=zhE I (fun b=>b=b0)
 have hr:Rel (frzHp h (fun b=>b=b0) w) ρ' (.rom z dom e n) (.map (some b0)):=
  .rom _ _ _ _ _ _ es clock ks ((zkT rfl).trans k2) k3 k4 k5 k6 k7 k8 k9 (fun k hd=>(kz k hd).heap (Le.of hle)) (fun i k x q1 q2=>(k10 i k x q1 q2).heap (Le.of hle))
 refine Kk _ ρ' a w (I.zif (id2:=id) (S:=fun b=>b=b0) k1 hidK hidK (fun b (hb:b=b0)=>hb▸(rfl:LI.owns (.blk b0) b0)) hbor hs hρ (fun i li hi=>.inl (hρ' i li hi)) (fun t=>?_) (fun i y hy=>?_) (fun i hi=>?_))
 · rcases zkU hL t with e1|e1
   · rw [e1];exact .any _ _
   · exact Rel.fm (Le.of hle) hρ k1 rfl hr (I.slot t) e1
 · obtain ⟨hik,x,e1,e2⟩:=m2 i y hy
   have H:=I.blk i x e1
   cases x with
   | cells cs=>
    simp only [fmB] at e2
    split at e2
    · rename_i cs' hcs
      cases e2
      obtain ⟨b,vs,ty',z1,z2,z3,z4⟩:=H
      obtain ⟨l1,l2⟩:=zkV hcs
      refine ⟨b,vs,ty',(hρ i hik).trans z1,z2,by rw [z3,l1],fun j c u hc hu=>?_⟩
      obtain ⟨c0,y1,y2⟩:=l2 j c hc
      exact Rel.fm (Le.of hle) hρ k1 rfl hr (z4 j c0 u y1 hu) y2
    · cases e2
   | _=>
    simp only [fmB] at e2
    split at e2
    · rename_i ho
      cases e2
      exact zbN.frz I hρ hik ho H
    · cases e2
 · cases hq:ρ' i with
   | none=>rfl
   | some li=>
    have:=m1 i (hρ' i li hq).1
    rw [hi] at this;cases this
theorem At.zqc (id id3:Nat) (k:Int) {ty sz n:Nat} {dom:Int→Bool} {m:Int→Nat} {e:Int→Nat→List AV} (hM:mm M id=some (.gmap ty sz n dom m e none)) (h3:mm M id3=none) (hm0:dom k=false→m k=0)
 (K:At N C L ((id3,.buf ty sz (m k) (e k))::(id,.gmap ty sz n dom m e (some (k,.buf id3 (m k))))::M) g R):At N C L M g R:=by
 intro h ρ a w I
 obtain ⟨b,es,clock,ks,Rw,q1,q2,q3,q4,q5,q6,q7,q8,q9,q10,q11,q12,q13⟩:=I.blk id _ hM
 have hne:id≠id3:=by rintro rfl;rw [hM] at h3;cases h3
 have hρ3:=I.dom id3 h3
 obtain ⟨v3,hv3⟩:∃ v3:Value,(dom k=true∧Rw k=some (m k,v3))∨(dom k=false∧Rw k=none∧v3 = .slice none 0 0):=by
  cases hd:dom k with
  | true=>
   obtain ⟨i,hi,hik⟩:=List.getElem_of_mem ((q9 k).1 hd)
   have hie:i<es.length:=by omega
   have:=(q10 i k es[i] (by rw [List.getElem?_eq_getElem hi,hik]) (List.getElem?_eq_getElem hie)).2 (fun _ h=>by cases h)
   exact ⟨_,.inl ⟨rfl,this⟩⟩
  | false=>
   refine ⟨_,.inr ⟨rfl,?_,rfl⟩⟩
   cases hR:Rw k with
   | none=>rfl
   | some p=>obtain ⟨c,v⟩:=p;rw [(q12 k c v hR).1] at hd;cases hd
 let R':Int→Option (Nat×Value):=fun j=>if j=k then none else Rw j
 have hR':∀ j c v,R' j=some (c,v)→j≠k∧Rw j=some (c,v):=fun j c v hj=>by
  have:(if j=k then none else Rw j)=some (c,v):=hj
  split at this
  · cases this
  · exact ⟨by assumption,this⟩
 let ρ':Rho:=upd (upd ρ id (some (.rows (some b) R'))) id3 (some (.sl (m k) sz v3))
 have r1:ρ' id=some (.rows (some b) R'):=by show upd _ _ _ _=_;rw [zae _ _ hne,zaf]
 have r3:ρ' id3=some (.sl (m k) sz v3):=zaf _ _ _
 have ro:∀ i,¬ (i=id∨i=id3)→ρ' i=ρ i:=fun i hi=>by
  show upd _ _ _ _=_
  rw [zae _ _ (fun e=>hi (.inr e)),zae _ _ (fun e=>hi (.inl e))]
 have own3:∀ b',v3.ownBlock=some b'→Rw k=some (m k,v3):=fun b' hb'=>by
  rcases hv3 with ⟨_,h2⟩|⟨_,_,rfl⟩
  · exact h2
  · simp [Value.ownBlock] at hb'
 have hle:∀ i l,ρ i=some l→∃ l',ρ' i=some l'∧l.le l':=by
  intro i l hi
  by_cases e1:i=id
  · subst e1
    rw [q1] at hi;cases hi
    exact ⟨_,r1,.inr (.inr (.inr (.inr ⟨_,_,_,rfl,rfl⟩)))⟩
  · by_cases e3:i=id3
    · subst e3;rw [hρ3] at hi;cases hi
    · exact ⟨l,by rw [ro i (by simp [e1,e3])];exact hi,.inl rfl⟩
 have hcell:∀ u,(dom k=true→Rw k=some (m k,u))→(dom k=false→u = .slice none 0 0)→u=v3:=fun u h1 h2=>by
  rcases hv3 with ⟨hd,e⟩|⟨hd,_,rfl⟩
  · have:=h1 hd;rw [e] at this;cases this;rfl
  · exact h2 hd
 have hone3:v3.oneCell'=true:=by
  rcases hv3 with ⟨_,e⟩|⟨_,_,rfl⟩
  · exact (q13.row k _ _ e).2.1
  · rfl
 have hrel3:Rel h ρ' (.buf id3 (m k)) v3:=.buf _ _ _ _ _ _ _ r3 (Nat.le_refl _) hone3 (fun _=>rfl)
 refine K h ρ' a w (I.step (S:=fun i=>i=id∨i=id3) rfl rfl rfl (Nat.le_refl _) (fun _ _ _=>rfl) ro hle (fun _ _ h=>h) (fun _ _ h=>.inl h) (fun i hi=>?_) ?_ ?_ ?_ ?_)
 · simp only [not_or] at hi
   simp only [mm]
   rw [zae _ _ hi.2,zae _ _ hi.1]
 · rintro i (rfl|rfl) hM'
   · simp only [mm] at hM';rw [zae _ _ hne,zaf] at hM';cases hM'
   · simp only [mm] at hM';rw [zaf] at hM';cases hM'
 · rintro i y (rfl|rfl) hM'
   · simp only [mm] at hM';rw [zae _ _ hne,zaf] at hM';cases hM'
     refine ⟨b,es,clock,ks,R',r1,q2,q3,q4,q5,q6,q7,q8,q9,fun j kk x hk hx=>⟨fun a' ha=>?_,fun ha=>?_⟩,fun kk a' ha=>?_,fun kk c v hR=>q12 kk c v (hR' kk c v hR).2,⟨fun kk c v hR=>q13.row kk c v (hR' kk c v hR).2,fun kk kk' c c' v v' b' h1 h2=>q13.dis kk kk' c c' v v' b' (hR' _ _ _ h1).2 (hR' _ _ _ h2).2⟩⟩
     · cases ha
       have:=(q10 j k x hk hx).2 (fun _ h=>by cases h)
       rw [hcell x.val (fun _=>this) (fun hd=>by rw [(q9 k).2 (List.mem_of_getElem? hk)] at hd;cases hd)]
       exact hrel3
     · have hkk:kk≠k:=fun e=>ha (.buf id3 (m k)) (by rw [e])
       show (if kk=k then none else Rw kk)=_
       rw [if_neg hkk]
       exact (q10 j kk x hk hx).2 (fun _ h=>by cases h)
     · cases ha
       refine ⟨if_pos rfl,fun hd=>?_⟩
       rw [hcell (.slice none 0 0) (fun hd'=>by rw [hd] at hd';cases hd') (fun _=>rfl)]
       exact hrel3
   · simp only [mm] at hM';rw [zaf] at hM';cases hM'
     rcases hv3 with ⟨_,e3⟩|⟨hd,_,rfl⟩
     · obtain ⟨_,_,xs,z1,z2,z3,z4⟩:=q13.row k _ _ e3
       exact ⟨v3,xs,r3,z1,z2,z3,z4⟩
     · have h0:=hm0 hd
       exact ⟨.slice none 0 0,[],r3,⟨by rw [h0];simp,.inl ⟨rfl,h0⟩⟩,fun j hj=>(by omega),fun x hx=>(by cases hx),fun j q c x hj=>(by omega)⟩
 · rintro i l b' (rfl|rfl) h1 h2
   · rw [r1] at h1;cases h1
     refine .inl ⟨i,_,.inl rfl,q1,?_⟩
     rcases h2 with h2|⟨kk,c,v,hR,h2⟩
     · exact .inl h2
     · exact .inr ⟨kk,c,v,(hR' _ _ _ hR).2,h2⟩
   · rw [r3] at h1;cases h1
     exact .inl ⟨id,_,.inl rfl,q1,.inr ⟨k,_,_,own3 b' h2,h2⟩⟩
 · have cross:∀ b',(LI.rows (some b) R').owns b'→v3.ownBlock=some b'→False:=by
    intro b' h1 h2
    have e3:=own3 b' h2
    rcases h1 with h1|⟨kk,c,v,hR,h1⟩
    · cases h1;exact (q12 k _ _ e3).2 h2
    · exact (hR' _ _ _ hR).1 (q13.dis kk k _ _ _ _ b' (hR' _ _ _ hR).2 e3 h1 h2)
   rintro i i' l l' b' (rfl|rfl) (rfl|rfl) h1 h1' h2 h2'
   · rfl
   · rw [r1] at h1;cases h1;rw [r3] at h1';cases h1';exact (cross b' h2 h2').elim
   · rw [r3] at h1;cases h1;rw [r1] at h1';cases h1';exact (cross b' h2' h2).elim
   · rfl
theorem At.zq6 (id id3:Nat) (k:Int) {ty sz n c:Nat} {dom:Int→Bool} {m:Int→Nat} {e:Int→Nat→List AV} {e3:Nat→List AV} (hM:mm M id=some (.gmap ty sz n dom m e (some (k,.buf id3 c)))) (h3:mm M id3=some (.buf ty sz c e3)) (hdk:dom k=true)
 (K:At N C L ((id3,.dead)::(id,.gmap ty sz n dom (fun j=>if j=k then c else m j) (fun j=>if j=k then e3 else e j) none)::M) g R):At N C L M g R:=by
 intro h ρ a w I
 obtain ⟨b,es,clock,ks,Rw,q1,q2,q3,q4,q5,q6,q7,q8,q9,q10,q11,q12,q13⟩:=I.blk id _ hM
 obtain ⟨v,xs,p1,p2,p3,p4,p5⟩:=I.blk id3 _ h3
 have hne:id≠id3:=by rintro rfl;rw [hM] at h3;cases h3
 have hRk:=(q11 k _ rfl).1
 let R':Int→Option (Nat×Value):=fun j=>if j=k then some (c,v) else Rw j
 have hR':∀ j c' v',R' j=some (c',v')→(j=k∧c'=c∧v'=v)∨(j≠k∧Rw j=some (c',v')):=fun j c' v' hj=>by
  have:(if j=k then some (c,v) else Rw j)=some (c',v'):=hj
  split at this
  · cases this;exact .inl ⟨by assumption,rfl,rfl⟩
  · exact .inr ⟨by assumption,this⟩
 let ρ':Rho:=upd (upd ρ id (some (.rows (some b) R'))) id3 (some (.sl (c+1) sz (.slice none 0 0)))
 have r1:ρ' id=some (.rows (some b) R'):=by show upd _ _ _ _=_;rw [zae _ _ hne,zaf]
 have r3:ρ' id3=some (.sl (c+1) sz (.slice none 0 0)):=zaf _ _ _
 have ro:∀ i,¬ (i=id∨i=id3)→ρ' i=ρ i:=fun i hi=>by
  show upd _ _ _ _=_
  rw [zae _ _ (fun e=>hi (.inr e)),zae _ _ (fun e=>hi (.inl e))]
 have hle:∀ i l,ρ i=some l→∃ l',ρ' i=some l'∧l.le l':=by
  intro i l hi
  by_cases e1:i=id
  · subst e1
    rw [q1] at hi;cases hi
    exact ⟨_,r1,.inr (.inr (.inr (.inr ⟨_,_,_,rfl,rfl⟩)))⟩
  · by_cases e3:i=id3
    · subst e3;rw [p1] at hi;cases hi
      exact ⟨_,r3,.inr (.inl ⟨_,_,_,_,_,rfl,rfl,Nat.lt_succ_self _⟩)⟩
    · exact ⟨l,by rw [ro i (by simp [e1,e3])];exact hi,.inl rfl⟩
 have hself:∀ u,Rel h ρ (.buf id3 c) u→u=v:=fun u hu=>by
  cases hu with
  | buf _ _ _ n2 sz2 _ v' hb hl h1 he=>rw [p1] at hb;cases hb;exact he rfl
 have hapart:∀ b',(LI.rows (some b) Rw).owns b'→v.ownBlock=some b'→False:=fun b' h1 h2=>hne (I.inj id id3 _ _ b' q1 p1 h1 h2)
 refine K h ρ' a w (I.step (S:=fun i=>i=id∨i=id3) rfl rfl rfl (Nat.le_refl _) (fun _ _ _=>rfl) ro hle (fun _ _ h=>h) (fun _ _ h=>.inl h) (fun i hi=>?_) ?_ ?_ ?_ ?_)
 · simp only [not_or] at hi
   simp only [mm]
   rw [zae _ _ hi.2,zae _ _ hi.1]
 · rintro i (rfl|rfl) hM'
   · simp only [mm] at hM';rw [zae _ _ hne,zaf] at hM';cases hM'
   · simp only [mm] at hM';rw [zaf] at hM';cases hM'
 · rintro i y (rfl|rfl) hM'
   · simp only [mm] at hM';rw [zae _ _ hne,zaf] at hM';cases hM'
     refine ⟨b,es,clock,ks,R',r1,q2,q3,q4,q5,q6,q7,q8,q9,fun j kk x hk hx=>⟨fun a' ha=>(by cases ha),fun _=>?_⟩,fun kk a' ha=>(by cases ha),fun kk c' v' hR=>?_,⟨fun kk c' v' hR=>?_,fun kk kk' c1 c2 v1 v2 b' h1 h2 b1 b2=>?_⟩⟩
     · by_cases e1:kk=k
       · subst e1
         rw [hself _ ((q10 j kk x hk hx).1 _ rfl)]
         show (if kk=kk then some (c,v) else Rw kk)=_
         simp
       · show (if kk=k then some (c,v) else Rw kk)=_
         rw [if_neg e1]
         simp only [if_neg e1]
         exact (q10 j kk x hk hx).2 (fun a' ha=>by cases ha;exact e1 rfl)
     · rcases hR' kk c' v' hR with ⟨rfl,rfl,rfl⟩|⟨_,hR⟩
       · exact ⟨hdk,fun hb=>hapart b (.inl rfl) hb⟩
       · exact q12 kk c' v' hR
     · rcases hR' kk c' v' hR with ⟨rfl,rfl,rfl⟩|⟨hn,hR⟩
       · simp only [if_pos]
         refine ⟨trivial,zfz p2,xs,p2,p3,p4,p5⟩
       · simp only [if_neg hn]
         exact q13.row kk c' v' hR
     · rcases hR' kk c1 v1 h1 with ⟨rfl,rfl,rfl⟩|⟨hn,hR⟩ <;> rcases hR' kk' c2 v2 h2 with ⟨rfl,rfl,rfl⟩|⟨hn',hR2⟩
       · rfl
       · exact (hapart b' (.inr ⟨kk',c2,v2,hR2,b2⟩) b1).elim
       · exact (hapart b' (.inr ⟨kk,c1,v1,hR,b1⟩) b2).elim
       · exact q13.dis kk kk' c1 c2 v1 v2 b' hR hR2 b1 b2
   · simp only [mm] at hM';rw [zaf] at hM';cases hM'
     exact ⟨_,_,r3⟩
 · rintro i l b' (rfl|rfl) h1 h2
   · rw [r1] at h1;cases h1
     rcases h2 with h2|⟨kk,c',v',hR,h2⟩
     · exact .inl ⟨i,_,.inl rfl,q1,.inl h2⟩
     · rcases hR' kk c' v' hR with ⟨rfl,rfl,rfl⟩|⟨_,hR⟩
       · exact .inl ⟨id3,_,.inr rfl,p1,h2⟩
       · exact .inl ⟨i,_,.inl rfl,q1,.inr ⟨kk,c',v',hR,h2⟩⟩
   · rw [r3] at h1;cases h1;simp [LI.owns,Value.ownBlock] at h2
 · rintro i i' l l' b' (rfl|rfl) (rfl|rfl) h1 h1' h2 h2'
   · rfl
   · rw [r3] at h1';cases h1';simp [LI.owns,Value.ownBlock] at h2'
   · rw [r3] at h1;cases h1;simp [LI.owns,Value.ownBlock] at h2
   · rfl
theorem At.zqe (id:Nat) {ty sz n:Nat} {dom:Int→Bool} {m:Int→Nat} {e:Int→Nat→List AV} {K ts:List Nat} {L':(Int→Value)→List (Nat×AV)} {M':List (Nat×Blk)} (hM:mm M id=some (.gmap ty sz n dom m e none)) (hK:zbf K id=false)
 (hL:∀ hd:Int→Value,fmS id (.rom (.slice none 0 0) dom (fun k=>.raw (hd k)) n) K L ts=some (L' hd)) (hMK:zdA K M K=some M') (hbor:∀ b,¬ C.bor b)
 (Kk:∀ hd:Int→Value,At N C (L' hd) ((id,.rows ty sz hd dom m e none)::M') g R) (hs:zdh K C.savA=true:=by rfl):At N C L M g R:=by
 intro h ρ a w I
 obtain ⟨b0,es,clock,ks,Rw,q1,q2,q3,q4,q5,q6,q7,q8,q9,q10,q11,q12,q13⟩:=I.blk id _ hM
 obtain ⟨m1,m2⟩:=zgG hMK
 have hidK:=zfB hK
 let ρ':Rho:=fun i=>if i∈K then ρ i else if i=id then some (.rows none Rw) else none
 have hρ:∀ i,i∈K→ρ' i=ρ i:=fun i hi=>if_pos hi
 have hρid:ρ' id=some (.rows none Rw):=by show (if id∈K then ρ id else if id=id then some (.rows none Rw) else none)=_;rw [if_neg hidK,if_pos rfl]
 have hρ':∀ i li,ρ' i=some li→(i∈K∧ρ i=some li)∨(i=id∧li = .rows none Rw):=fun i li hi=>by
  have:(if i∈K then ρ i else if i=id then some (.rows none Rw) else none)=some li:=hi
  split at this
  · exact .inl ⟨by assumption,this⟩
  · split at this
    · cases this;exact .inr ⟨by assumption,rfl⟩
    · cases this
 have hle:=zhE I (fun b=>b=b0)
 let hd:Int→Value:=fun k=>match Rw k with
  | some (_,v)=>v
  | none=>.slice none 0 0
 have hdS:∀ k c v,Rw k=some (c,v)→hd k=v:=fun k c v hk=>by show (match Rw k with|some (_,v)=>v|none=>.slice none 0 0)=v;rw [hk]
 have hdN:∀ k,Rw k=none→hd k = .slice none 0 0:=fun k hk=>by show (match Rw k with|some (_,v)=>v|none=>.slice none 0 0)=_;rw [hk]
 have hRn:∀ k,dom k=false→Rw k=none:=fun k hk=>by
  cases hR:Rw k with
  | none=>rfl
  | some p=>obtain ⟨c,v⟩:=p;rw [(q12 k c v hR).1] at hk;cases hk
 have hRs:∀ k,dom k=true→Rw k=some (m k,hd k):=fun k hk=>by
  obtain ⟨i,hi,hik⟩:=List.getElem_of_mem ((q9 k).1 hk)
  have hie:i<es.length:=by omega
  have:=(q10 i k es[i] (by rw [List.getElem?_eq_getElem hi,hik]) (List.getElem?_eq_getElem hie)).2 (fun _ h=>by cases h)
  rw [this,hdS k _ _ this]
 have hr:Rel (frzHp h (fun b=>b=b0) w) ρ' (.rom (.slice none 0 0) dom (fun k=>.raw (hd k)) n) (.map (some b0)):=
  .rom _ _ _ _ _ _ es clock ks ((zkT rfl).trans q2) q3 q4 q5 q6 q7 q8 q9 (fun k hk=>by rw [hdN k (hRn k hk)];exact .raw _ _) (fun i k x e1 e2=>by
   have:=(q10 i k x e1 e2).2 (fun _ h=>by cases h)
   rw [hdS k _ _ this];exact .raw _ _)
 refine Kk hd _ ρ' a w (I.zif (id2:=id) (S:=fun b=>b=b0) q1 hidK hidK (fun b (hb:b=b0)=>.inl (by rw [hb])) hbor hs hρ (fun i li hi=>?_) (fun t=>?_) (fun i y hy=>?_) (fun i hi=>?_))
 · rcases hρ' i li hi with h1|⟨h1,rfl⟩
   · exact .inl h1
   · refine .inr ⟨h1,fun b hb=>?_⟩
     rcases hb with hb|⟨k,c,v,hR,hb⟩
     · cases hb
     · exact ⟨.inr ⟨k,c,v,hR,hb⟩,fun e=>(q12 k c v hR).2 (e▸hb)⟩
 · rcases zkU (hL hd) t with e1|e1
   · rw [e1];exact .any _ _
   · exact Rel.fm (Le.of hle) hρ q1 rfl hr (I.slot t) e1
 · simp only [mm] at hy
   by_cases e1:i=id
   · subst e1;rw [zaf] at hy;cases hy
     refine ⟨Rw,hρid,fun k _=>?_,fun k a' ha=>(by cases ha),q13.keep (Le.of hle) (fun _ _ _ _ _ _=>rfl)⟩
     cases hk:dom k with
     | true=>rw [if_pos rfl];exact hRs k hk
     | false=>rw [if_neg (by simp)];exact hRn k hk
   · rw [zae _ _ e1] at hy
     obtain ⟨h1,h2⟩:=m1 i y hy
     have hik:i∈K:=by
      by_cases hk:i∈K
      · exact hk
      · exact absurd hy (by rw [zl1 hMK hk];simp)
     exact zbN.frz I hρ hik h2 (I.blk i y h1)
 · simp only [mm] at hi
   by_cases e1:i=id
   · subst e1;rw [zaf] at hi;cases hi
   · rw [zae _ _ e1] at hi
     cases hq:ρ' i with
     | none=>rfl
     | some li=>
      rcases hρ' i li hq with ⟨h1,_⟩|⟨h1,_⟩
      · have:=m2 i h1
        rw [hi] at this;cases this
      · exact absurd h1 e1
theorem At.zpQ (id id3 t:Nat) (k:Int) {ty sz:Nat} {hd:Int→Value} {dom:Int→Bool} {m:Int→Nat} {e:Int→Nat→List AV} (hM:mm M id=some (.rows ty sz hd dom m e none)) (h3:mm M id3=none) (ht:fr L t = .raw (hd k)) (hdk:dom k=true)
 (K:At N C ((t,.buf id3 (m k))::L) ((id3,.buf ty sz (m k) (e k))::(id,.rows ty sz hd dom m e (some (k,.buf id3 (m k))))::M) g R):At N C L M g R:=by
 intro h ρ a w I
 obtain ⟨Rw,q1,q2,q3,q4⟩:=I.blk id _ hM
 have hne:id≠id3:=by rintro rfl;rw [hM] at h3;cases h3
 have hρ3:=I.dom id3 h3
 have hRk:Rw k=some (m k,hd k):=by rw [q2 k (fun _ h=>by cases h),if_pos hdk]
 let R':Int→Option (Nat×Value):=fun j=>if j=k then none else Rw j
 have hR':∀ j c v,R' j=some (c,v)→j≠k∧Rw j=some (c,v):=fun j c v hj=>by
  have:(if j=k then none else Rw j)=some (c,v):=hj
  split at this
  · cases this
  · exact ⟨by assumption,this⟩
 let ρ':Rho:=upd (upd ρ id (some (.rows none R'))) id3 (some (.sl (m k) sz (hd k)))
 have r1:ρ' id=some (.rows none R'):=by show upd _ _ _ _=_;rw [zae _ _ hne,zaf]
 have r3:ρ' id3=some (.sl (m k) sz (hd k)):=zaf _ _ _
 have ro:∀ i,¬ (i=id∨i=id3)→ρ' i=ρ i:=fun i hi=>by
  show upd _ _ _ _=_
  rw [zae _ _ (fun e=>hi (.inr e)),zae _ _ (fun e=>hi (.inl e))]
 have hle:∀ i l,ρ i=some l→∃ l',ρ' i=some l'∧l.le l':=by
  intro i l hi
  by_cases e1:i=id
  · subst e1
    rw [q1] at hi;cases hi
    exact ⟨_,r1,.inr (.inr (.inr (.inr ⟨_,_,_,rfl,rfl⟩)))⟩
  · by_cases e3:i=id3
    · subst e3;rw [hρ3] at hi;cases hi
    · exact ⟨l,by rw [ro i (by simp [e1,e3])];exact hi,.inl rfl⟩
 obtain ⟨_,hone,xs,z1,z2,z3,z4⟩:=q4.row k _ _ hRk
 have hrel3:Rel h ρ' (.buf id3 (m k)) (hd k):=.buf _ _ _ _ _ _ _ r3 (Nat.le_refl _) hone (fun _=>rfl)
 have I':InvH N C h ρ' (fr L) (mm ((id3,.buf ty sz (m k) (e k))::(id,.rows ty sz hd dom m e (some (k,.buf id3 (m k))))::M)) g a w:=by
  refine I.step (S:=fun i=>i=id∨i=id3) rfl rfl rfl (Nat.le_refl _) (fun _ _ _=>rfl) ro hle (fun _ _ h=>h) (fun _ _ h=>.inl h) (fun i hi=>?_) ?_ ?_ ?_ ?_
  · simp only [not_or] at hi
    simp only [mm]
    rw [zae _ _ hi.2,zae _ _ hi.1]
  · rintro i (rfl|rfl) hM'
    · simp only [mm] at hM';rw [zae _ _ hne,zaf] at hM';cases hM'
    · simp only [mm] at hM';rw [zaf] at hM';cases hM'
  · rintro i y (rfl|rfl) hM'
    · simp only [mm] at hM';rw [zae _ _ hne,zaf] at hM';cases hM'
      refine ⟨R',r1,fun kk ha=>?_,fun kk a' ha=>?_,⟨fun kk c v hR=>q4.row kk c v (hR' kk c v hR).2,fun kk kk' c c' v v' b' h1 h2=>q4.dis kk kk' c c' v v' b' (hR' _ _ _ h1).2 (hR' _ _ _ h2).2⟩⟩
      · have hkk:kk≠k:=fun e=>ha (.buf id3 (m k)) (by rw [e])
        show (if kk=k then none else Rw kk)=_
        rw [if_neg hkk]
        exact q2 kk (fun _ h=>by cases h)
      · cases ha
        exact ⟨if_pos rfl,hrel3⟩
    · simp only [mm] at hM';rw [zaf] at hM';cases hM'
      exact ⟨hd k,xs,r3,z1,z2,z3,z4⟩
  · rintro i l b' (rfl|rfl) h1 h2
    · rw [r1] at h1;cases h1
      refine .inl ⟨i,_,.inl rfl,q1,?_⟩
      rcases h2 with h2|⟨kk,c,v,hR,h2⟩
      · cases h2
      · exact .inr ⟨kk,c,v,(hR' _ _ _ hR).2,h2⟩
    · rw [r3] at h1;cases h1
      exact .inl ⟨id,_,.inl rfl,q1,.inr ⟨k,_,_,hRk,h2⟩⟩
  · have cross:∀ b',(LI.rows none R').owns b'→(hd k).ownBlock=some b'→False:=by
     intro b' h1 h2
     rcases h1 with h1|⟨kk,c,v,hR,h1⟩
     · cases h1
     · exact (hR' _ _ _ hR).1 (q4.dis kk k _ _ _ _ b' (hR' _ _ _ hR).2 hRk h1 h2)
    rintro i i' l l' b' (rfl|rfl) (rfl|rfl) h1 h1' h2 h2'
    · rfl
    · rw [r1] at h1;cases h1;rw [r3] at h1';cases h1';exact (cross b' h2 h2').elim
    · rw [r3] at h1;cases h1;rw [r1] at h1';cases h1';exact (cross b' h2' h2).elim
    · rfl
 refine K h ρ' a w { I' with slot:=fun u=>?_ }
 simp only [fr,put]
 split
 · rename_i hb
   have:=Nat.eq_of_beq_eq_true hb
   subst this
   have hv:=I.slot u
   rw [ht] at hv
   generalize a.tmps.getD u undef=x at hv
   cases hv
   exact hrel3
 · exact I'.slot u
theorem At.zqR (id id3:Nat) (k:Int) {ty sz c:Nat} {hd:Int→Value} {dom:Int→Bool} {m:Int→Nat} {e:Int→Nat→List AV} {e3:Nat→List AV} (hM:mm M id=some (.rows ty sz hd dom m e (some (k,.buf id3 (m k))))) (h3:mm M id3=some (.buf ty sz c e3)) (hc:c=m k) (hdk:dom k=true)
 (K:At N C L ((id3,.dead)::(id,.rows ty sz hd dom m (fun j=>if j=k then e3 else e j) none)::M) g R):At N C L M g R:=by
 subst hc
 intro h ρ a w I
 obtain ⟨Rw,q1,q2,q3,q4⟩:=I.blk id _ hM
 obtain ⟨v,xs,p1,p2,p3,p4,p5⟩:=I.blk id3 _ h3
 have hne:id≠id3:=by rintro rfl;rw [hM] at h3;cases h3
 obtain ⟨hRk,hrelk⟩:=q3 k _ rfl
 have hv:hd k=v:=by
  generalize hd k=u at hrelk
  cases hrelk with
  | buf _ _ _ n2 sz2 _ v' hb hl h1 he=>rw [p1] at hb;cases hb;exact he rfl
 let R':Int→Option (Nat×Value):=fun j=>if j=k then some (m k,hd k) else Rw j
 have hR':∀ j c' v',R' j=some (c',v')→(j=k∧c'=m k∧v'=hd k)∨(j≠k∧Rw j=some (c',v')):=fun j c' v' hj=>by
  have:(if j=k then some (m k,hd k) else Rw j)=some (c',v'):=hj
  split at this
  · cases this;exact .inl ⟨by assumption,rfl,rfl⟩
  · exact .inr ⟨by assumption,this⟩
 let ρ':Rho:=upd (upd ρ id (some (.rows none R'))) id3 (some (.sl (m k+1) sz (.slice none 0 0)))
 have r1:ρ' id=some (.rows none R'):=by show upd _ _ _ _=_;rw [zae _ _ hne,zaf]
 have r3:ρ' id3=some (.sl (m k+1) sz (.slice none 0 0)):=zaf _ _ _
 have ro:∀ i,¬ (i=id∨i=id3)→ρ' i=ρ i:=fun i hi=>by
  show upd _ _ _ _=_
  rw [zae _ _ (fun e=>hi (.inr e)),zae _ _ (fun e=>hi (.inl e))]
 have hle:∀ i l,ρ i=some l→∃ l',ρ' i=some l'∧l.le l':=by
  intro i l hi
  by_cases e1:i=id
  · subst e1
    rw [q1] at hi;cases hi
    exact ⟨_,r1,.inr (.inr (.inr (.inr ⟨_,_,_,rfl,rfl⟩)))⟩
  · by_cases e3:i=id3
    · subst e3;rw [p1] at hi;cases hi
      exact ⟨_,r3,.inr (.inl ⟨_,_,_,_,_,rfl,rfl,Nat.lt_succ_self _⟩)⟩
    · exact ⟨l,by rw [ro i (by simp [e1,e3])];exact hi,.inl rfl⟩
 have hapart:∀ b',(LI.rows none Rw).owns b'→(hd k).ownBlock=some b'→False:=fun b' h1 h2=>hne (I.inj id id3 _ _ b' q1 p1 h1 (hv▸h2))
 refine K h ρ' a w (I.step (S:=fun i=>i=id∨i=id3) rfl rfl rfl (Nat.le_refl _) (fun _ _ _=>rfl) ro hle (fun _ _ h=>h) (fun _ _ h=>.inl h) (fun i hi=>?_) ?_ ?_ ?_ ?_)
 · simp only [not_or] at hi
   simp only [mm]
   rw [zae _ _ hi.2,zae _ _ hi.1]
 · rintro i (rfl|rfl) hM'
   · simp only [mm] at hM';rw [zae _ _ hne,zaf] at hM';cases hM'
   · simp only [mm] at hM';rw [zaf] at hM';cases hM'
 · rintro i y (rfl|rfl) hM'
   · simp only [mm] at hM';rw [zae _ _ hne,zaf] at hM';cases hM'
     refine ⟨R',r1,fun kk _=>?_,fun kk a' ha=>(by cases ha),⟨fun kk c' v' hR=>?_,fun kk kk' c1 c2 v1 v2 b' h1 h2 b1 b2=>?_⟩⟩
     · show (if kk=k then some (m k,hd k) else Rw kk)=_
       by_cases e1:kk=k
       · subst e1;rw [if_pos rfl,if_pos hdk]
       · rw [if_neg e1];exact q2 kk (fun a' ha=>by cases ha;exact e1 rfl)
     · rcases hR' kk c' v' hR with ⟨rfl,rfl,rfl⟩|⟨hn,hR⟩
       · simp only [if_pos]
         refine ⟨trivial,hv▸zfz p2,xs,hv▸p2,p3,p4,p5⟩
       · simp only [if_neg hn]
         exact q4.row kk c' v' hR
     · rcases hR' kk c1 v1 h1 with ⟨rfl,rfl,rfl⟩|⟨hn,hR⟩ <;> rcases hR' kk' c2 v2 h2 with ⟨rfl,rfl,rfl⟩|⟨hn',hR2⟩
       · rfl
       · exact (hapart b' (.inr ⟨kk',c2,v2,hR2,b2⟩) b1).elim
       · exact (hapart b' (.inr ⟨kk,c1,v1,hR,b1⟩) b2).elim
       · exact q4.dis kk kk' c1 c2 v1 v2 b' hR hR2 b1 b2
   · simp only [mm] at hM';rw [zaf] at hM';cases hM'
     exact ⟨_,_,r3⟩
 · rintro i l b' (rfl|rfl) h1 h2
   · rw [r1] at h1;cases h1
     rcases h2 with h2|⟨kk,c',v',hR,h2⟩
     · cases h2
     · rcases hR' kk c' v' hR with ⟨rfl,rfl,rfl⟩|⟨_,hR⟩
       · exact .inl ⟨id3,_,.inr rfl,p1,hv▸h2⟩
       · exact .inl ⟨i,_,.inl rfl,q1,.inr ⟨kk,c',v',hR,h2⟩⟩
   · rw [r3] at h1;cases h1;simp [LI.owns,Value.ownBlock] at h2
 · rintro i i' l l' b' (rfl|rfl) (rfl|rfl) h1 h1' h2 h2'
   · rfl
   · rw [r3] at h1';cases h1';simp [LI.owns,Value.ownBlock] at h2'
   · rw [r3] at h1;cases h1;simp [LI.owns,Value.ownBlock] at h2
   · rfl
theorem At.znQ (id t:Nat) {ty sz n:Nat} {hd:Int→Value} {dom:Int→Bool} {m:Int→Nat} {e:Int→Nat→List AV} {K ts:List Nat} {L':List (Nat×AV)} {M':List (Nat×Blk)} (hM:mm M id=some (.rows ty sz hd dom m e none)) (hK:zbf K id=false)
 (ht:fr L t = .rom (.slice none 0 0) dom (fun k=>.raw (hd k)) n) (hm0:∀ k,dom k=false→m k=0) (hL:zhI K L ts=some L') (hMK:zdA K M K=some M') (hbor:∀ b,¬ C.bor b)
 (Kk:At N C ((t,.rom (.slice none 0 0) dom (fun k=>.ro sz (m k) (e k)) n)::L') M' g R) (hs:zdh K C.savA=true:=by rfl):At N C L M g R:=by
 intro h ρ a w I
 obtain ⟨Rw,q1,q2,q3,q4⟩:=I.blk id _ hM
 obtain ⟨m1,m2⟩:=zgG hMK
 have hidK:=zfB hK
 let ρ':Rho:=fun i=>if i∈K then ρ i else none
 have hρ:∀ i,i∈K→ρ' i=ρ i:=fun i hi=>if_pos hi
 have hρ':∀ i li,ρ' i=some li→i∈K∧ρ i=some li:=fun i li hi=>by
  have:(if i∈K then ρ i else none)=some li:=hi
  split at this
  · exact ⟨by assumption,this⟩
  · cases this
 have hle:=zhE I (fun b=>(LI.rows none Rw).owns b)
 have row:∀ k,dom k=true→Rel (frzHp h (fun b=>(LI.rows none Rw).owns b) w) ρ0 (.ro sz (m k) (e k)) (hd k):=fun k hk=>by
  have hRk:Rw k=some (m k,hd k):=by rw [q2 k (fun _ h=>by cases h),if_pos hk]
  obtain ⟨_,hone,xs,z1,z2,z3,z4⟩:=q4.row k _ _ hRk
  exact zeb z1 (fun b hb=>zkT (show (LI.rows none Rw).owns b from .inr ⟨k,_,_,hRk,hb⟩)) z2 z3 (fun i j c x a1 a2 a3=>(z4 i j c x a1 a2 a3).heap (Le.of hle))
 refine Kk _ ρ' a w (I.zif (id2:=id) (S:=fun b=>(LI.rows none Rw).owns b) q1 hidK hidK (fun b hb=>hb) hbor hs hρ (fun i li hi=>.inl (hρ' i li hi)) (fun u=>?_) (fun i y hy=>?_) (fun i hi=>?_))
 · simp only [fr,put]
   split
   · rename_i hb
     have:=Nat.eq_of_beq_eq_true hb
     subst this
     have hv:=I.slot u
     rw [ht] at hv
     generalize a.tmps.getD u undef=x at hv
     cases hv with
     | romN _ _ _ _ hdom hz=>
      exact .romN _ _ _ _ hdom (fun k=>by
       rw [hm0 k (hdom k)]
       exact Sim.nil sz (e k) _ _ _ (.nilS _))
     | rom _ _ _ _ _ r es clock ks z1 z2 z3 z4 z5 z6 z7 z8 z9 z10=>
      refine .rom _ _ _ _ _ _ es clock ks (hle _ _ z1) z2 z3 z4 z5 z6 z7 z8 (fun k hk=>?_) (fun i k x e1 e2=>?_)
      · rw [hm0 k hk]
        exact Sim.nil sz (e k) _ _ _ (.nilS _)
      · have:=z10 i k x e1 e2
        generalize hx:x.val=y at this
        cases this
        exact row k ((z8 k).2 (List.mem_of_getElem? e1))
   · rcases zgH hL u with e1|⟨e1,e2⟩
     · rw [e1];exact .any _ _
     · have:=I.slot u
       rw [← e1] at this
       exact (this.heap (Le.of hle)).forget hρ e2
 · obtain ⟨h1,h2⟩:=m1 i y hy
   have hik:i∈K:=by
    by_cases hk:i∈K
    · exact hk
    · exact absurd hy (by rw [zl1 hMK hk];simp)
   exact zbN.frz I hρ hik h2 (I.blk i y h1)
 · cases hq:ρ' i with
   | none=>rfl
   | some li=>
    have:=m2 i (hρ' i li hq).1
    rw [hi] at this;cases this
end
def zmF {T:Type} [Inhabited T] (ty sz:Nat) (f:T→List AV) (m:Mp (List T)) (out:Option (Int×AV)):Blk:=
 .gmap ty sz m.card (fun k=>(m.get k).isSome) (fun k=>((m.get k).getD []).length) (fun k j=>f (((m.get k).getD []).getD j default)) out
def zg6 {T:Type} [Inhabited T] (ty sz:Nat) (f:T→List AV) (hd:Int→Value) (m:Mp (List T)) (out:Option (Int×AV)):Blk:=
 .rows ty sz hd (fun k=>(m.get k).isSome) (fun k=>((m.get k).getD []).length) (fun k j=>f (((m.get k).getD []).getD j default)) out
def romR {T:Type} (hd:Int→Value) (m:Mp (List T)):AV:=.rom (.slice none 0 0) (fun k=>(m.get k).isSome) (fun k=>.raw (hd k)) m.card
theorem BSim.gmapEq {ty sz n n':Nat} {dom dom':Int→Bool} {m m':Int→Nat} {e e':Int→Nat→List AV} {out:Option (Int×AV)} (h1:∀ k,dom k=dom' k) (h2:∀ k,m k=m' k) (h3:∀ k j,e k j=e' k j) (h4:n=n'):BSim (.gmap ty sz n dom m e out) (.gmap ty sz n' dom' m' e' out):=by
 obtain rfl:dom=dom':=funext h1
 obtain rfl:m=m':=funext h2
 obtain rfl:e=e':=funext fun k=>funext (h3 k)
 subst h4
 exact .refl _
theorem BSim.zor {ty sz:Nat} {hd:Int→Value} {dom dom':Int→Bool} {m m':Int→Nat} {e e':Int→Nat→List AV} {out:Option (Int×AV)} (h1:∀ k,dom k=dom' k) (h2:∀ k,m k=m' k) (h3:∀ k j,e k j=e' k j):BSim (.rows ty sz hd dom m e out) (.rows ty sz hd dom' m' e' out):=by
 obtain rfl:dom=dom':=funext h1
 obtain rfl:m=m':=funext h2
 obtain rfl:e=e':=funext fun k=>funext (h3 k)
 exact .refl _
section
variable {N:Nat} {C:Ctx} {L:List (Nat×AV)} {M:List (Nat×Blk)} {g:Nat} {R:Act→World→Prop} {T:Type} [Inhabited T] {f:T→List AV}
theorem At.zo4 (id id3:Nat) (k:Int) {ty sz:Nat} {m:Mp (List T)} (hM:mm M id=some (zmF ty sz f m none)) (h3:mm M id3=none)
 (K:At N C L ((id3,bufL ty sz f ((m.get k).getD []))::(id,zmF ty sz f m (some (k,.buf id3 ((m.get k).getD []).length)))::M) g R):At N C L M g R:=
 At.zqc id id3 k hM h3 (fun hd=>by
  cases hk:m.get k with
  | none=>rfl
  | some l=>rw [hk] at hd;cases hd) K
theorem At.zqd (id id3:Nat) (k:Int) {ty sz c:Nat} {m:Mp (List T)} {l:List T}
 (hM:mm M id=some (.gmap ty sz (bif (m.get k).isSome then m.card else m.card+1) (fun j=>decide (j=k) || (m.get j).isSome) (fun j=>((m.get j).getD []).length) (fun j i=>f (((m.get j).getD []).getD i default)) (some (k,.buf id3 c)))) (h3:mm M id3=some (bufL ty sz f l)) (hc:c=l.length)
 (K:At N C L ((id3,.dead)::(id,zmF ty sz f (m.set k l) none)::M) g R):At N C L M g R:=by
 subst hc
 refine At.zq6 id id3 k hM h3 (by simp) (At.zbb (.cons (.refl _) (.cons ?_ (AgreeM.refl _))) K)
 refine BSim.gmapEq (fun j=>?_) (fun j=>?_) (fun j i=>?_) ?_
 · by_cases e:j=k <;> simp [Mp.set,e]
 · by_cases e:j=k <;> simp [Mp.set,e]
 · by_cases e:j=k <;> simp [Mp.set,e]
 · simp only [Mp.set]
   cases (m.get k).isSome <;> rfl
theorem At.zo5 (id:Nat) {ty sz:Nat} {m:Mp (List T)} {K ts:List Nat} {L':(Int→Value)→List (Nat×AV)} {M':List (Nat×Blk)} (hM:mm M id=some (zmF ty sz f m none)) (hK:zbf K id=false)
 (hL:∀ hd:Int→Value,fmS id (romR hd m) K L ts=some (L' hd)) (hMK:zdA K M K=some M') (hbor:∀ b,¬ C.bor b)
 (Kk:∀ hd:Int→Value,At N C (L' hd) ((id,zg6 ty sz f hd m none)::M') g R) (hs:zdh K C.savA=true:=by rfl):At N C L M g R:=
 At.zqe id hM hK hL hMK hbor Kk hs
theorem Mp.zmz {g:T→Option T} {m y:Mp T} (h:m.znm g=some y) {left:List Int} (hok:m.ok) (hl:left.Nodup∧left.length=m.card∧∀ k,(m.get k).isSome=true↔k∈left) :
 y.card=m.card∧y.keys=m.keys∧(∀ k,m.get k=none→y.get k=none)∧∀ k l,m.get k=some l→∃ r,g l=some r∧y.get k=some r:=by
 unfold Mp.znm at h
 split at h
 · rename_i ha
   cases h
   refine ⟨rfl,rfl,fun k hk=>by simp only [hk],fun k l hk=>?_⟩
   have hmem:k∈m.keys:=(Mp.perm hok hl).mem_iff.2 ((hl.2.2 k).1 (by rw [hk];rfl))
   have:=List.all_eq_true.1 ha k hmem
   rw [hk] at this
   obtain ⟨r,hr⟩:=Option.isSome_iff_exists.1 this
   exact ⟨r,hr,by simp only [hk];exact hr⟩
 · cases h
omit [Inhabited T] in
theorem Mp.zoH {m y:Mp T} {left:List Int} {k:Int} (h:k∈left):(m.mix y left).get k=m.get k:=if_pos h
theorem BSim.zoq {ty sz:Nat} {hd:Int→Value} {m y:Mp (List T)} {left:List Int} (hl:∀ k,(m.get k).isSome=true↔k∈left) (hy:∀ k,m.get k=none→y.get k=none):BSim (zg6 ty sz f hd m none) (zg6 ty sz f hd (m.mix y left) none):=by
 have:∀ k,(m.mix y left).get k=m.get k:=fun k=>by
  show (if k∈left then m.get k else y.get k)=m.get k
  split
  · rfl
  · rename_i hk
    cases h:m.get k with
    | none=>exact hy k h
    | some l=>exact absurd ((hl k).1 (by rw [h];rfl)) hk
 exact BSim.zor (fun k=>by rw [this]) (fun k=>by rw [this]) (fun k j=>by rw [this])
theorem BSim.zqS {ty sz:Nat} {hd:Int→Value} {m y:Mp (List T)}:BSim (zg6 ty sz f hd (m.mix y []) none) (zg6 ty sz f hd y none):=by
 have:∀ k,(m.mix y []).get k=y.get k:=fun k=>by
  show (if k∈([]:List Int) then m.get k else y.get k)=y.get k
  simp
 exact BSim.zor (fun k=>by rw [this]) (fun k=>by rw [this]) (fun k j=>by rw [this])
theorem At.zoo (id id3 t:Nat) (k:Int) {ty sz:Nat} {hd:Int→Value} {m:Mp (List T)} (hM:mm M id=some (zg6 ty sz f hd m none)) (h3:mm M id3=none) (ht:fr L t = .raw (hd k)) (hdk:(m.get k).isSome=true)
 (K:At N C ((t,.buf id3 ((m.get k).getD []).length)::L) ((id3,bufL ty sz f ((m.get k).getD []))::(id,zg6 ty sz f hd m (some (k,.buf id3 ((m.get k).getD []).length)))::M) g R):At N C L M g R:=
 At.zpQ id id3 t k hM h3 ht hdk K
theorem At.zpR (id id3:Nat) (k:Int) {ty sz:Nat} {hd:Int→Value} {m y:Mp (List T)} {left left':List Int} {r:List T} (hM:mm M id=some (zg6 ty sz f hd (m.mix y left) (some (k,.buf id3 (((m.mix y left).get k).getD []).length)))) (h3:mm M id3=some (bufL ty sz f r))
 (hp:left.Perm (k::left')) (hnd:left.Nodup) (hdk:(m.get k).isSome=true) (hy:y.get k=some r) (hc:r.length=((m.get k).getD []).length)
 (K:At N C L ((id3,.dead)::(id,zg6 ty sz f hd (m.mix y left') none)::M) g R):At N C L M g R:=by
 have hkl:k∈left:=hp.mem_iff.2 (List.mem_cons_self ..)
 have hmk:(m.mix y left).get k=m.get k:=Mp.zoH hkl
 have hnk:k ∉ left':=(List.nodup_cons.1 (hp.nodup_iff.1 hnd)).1
 refine At.zqR id id3 k hM h3 (by rw [hmk];exact hc) (by rw [hmk];exact hdk) (At.zbb (.cons (.refl _) (.cons ?_ (AgreeM.refl _))) K)
 have hk':(m.mix y left').get k=some r:=by
  show (if k∈left' then m.get k else y.get k)=some r
  rw [if_neg hnk];exact hy
 have hj:∀ j,j≠k→(m.mix y left').get j=(m.mix y left).get j:=fun j hne=>by
  show (if j∈left' then m.get j else y.get j)=(if j∈left then m.get j else y.get j)
  have:j∈left↔j∈left':=by rw [hp.mem_iff];simp [hne]
  by_cases h:j∈left'
  · rw [if_pos h,if_pos (this.2 h)]
  · rw [if_neg h,if_neg (fun h'=>h (this.1 h'))]
 refine BSim.zor (fun j=>?_) (fun j=>?_) (fun j i=>?_)
 · by_cases e:j=k
   · subst e;rw [hk',hmk,hdk];rfl
   · rw [hj j e]
 · by_cases e:j=k
   · subst e;rw [hk',hmk,← hc];rfl
   · rw [hj j e]
 · by_cases e:j=k
   · subst e;rw [hk',if_pos rfl];rfl
   · rw [if_neg e,hj j e]
theorem At.zms (id t:Nat) {ty sz:Nat} {hd:Int→Value} {m y:Mp (List T)} {K ts:List Nat} {L':List (Nat×AV)} {M':List (Nat×Blk)} (hM:mm M id=some (zg6 ty sz f hd y none)) (hK:zbf K id=false) (ht:fr L t=romR hd m) (hc:y.card=m.card) (hn:∀ k,(m.get k).isSome=(y.get k).isSome)
 (hL:zhI K L ts=some L') (hMK:zdA K M K=some M') (hbor:∀ b,¬ C.bor b)
 (Kk:At N C ((t,romL (.slice none 0 0) (fun l=>roL sz f l) y)::L') M' g R) (hs:zdh K C.savA=true:=by rfl):At N C L M g R:=by
 have e1:romR hd m=romR hd y:=by
  unfold romR
  rw [hc,show (fun k=>(m.get k).isSome)=(fun k=>(y.get k).isSome) from funext hn]
 refine At.znQ id t hM hK (ht.trans e1) (fun k hk=>?_) hL hMK hbor Kk hs
 cases h:y.get k with
 | none=>rfl
 | some l=>rw [h] at hk;cases hk
theorem At.zop (id id3 t:Nat) (k:Int) {ty sz:Nat} {hd:Int→Value} {m:Mp (List T)} {l:List T} (hM:mm M id=some (zg6 ty sz f hd m none)) (h3:mm M id3=none) (ht:fr L t = .raw (hd k)) (hl:m.get k=some l)
 (K:At N C ((t,.buf id3 l.length)::L) ((id3,bufL ty sz f l)::(id,zg6 ty sz f hd m (some (k,.buf id3 l.length)))::M) g R):At N C L M g R:=by
 refine At.zoo id id3 t k hM h3 ht (by rw [hl];rfl) ?_
 rw [hl];exact K
theorem At.zpS (id id3:Nat) (k:Int) {ty sz c:Nat} {hd:Int→Value} {m y:Mp (List T)} {left left':List Int} {l r:List T} (hM:mm M id=some (zg6 ty sz f hd (m.mix y left) (some (k,.buf id3 c)))) (h3:mm M id3=some (bufL ty sz f r))
 (hp:left.Perm (k::left')) (hnd:left.Nodup) (hl:m.get k=some l) (hcl:c=l.length) (hy:y.get k=some r) (hc:r.length=l.length)
 (K:At N C L ((id3,.dead)::(id,zg6 ty sz f hd (m.mix y left') none)::M) g R):At N C L M g R:=by
 have hmk:(m.mix y left).get k=some l:=(Mp.zoH (hp.mem_iff.2 (List.mem_cons_self ..))).trans hl
 refine At.zpR id id3 k (m:=m) (y:=y) (left:=left) ?_ h3 hp hnd (by rw [hl];rfl) hy (by rw [hl];exact hc) K
 rw [hmk,hM,hcl];rfl
omit [Inhabited T] in
theorem Mp.dom_of {T:Type} {m y:Mp T} (h1:∀ k,m.get k=none→y.get k=none) (h2:∀ k l,m.get k=some l→∃ r,y.get k=some r) (k:Int):(m.get k).isSome=(y.get k).isSome:=by
 cases h:m.get k with
 | none=>rw [h1 k h]
 | some l=>obtain ⟨r,hr⟩:=h2 k l h;rw [hr];rfl
theorem BSim.zo6 {ty sz:Nat}:BSim (.gmap ty sz 0 (fun _=>false) (fun _=>0) (fun _ _=>[]) none) (zmF ty sz f (Mp.empty:Mp (List T)) none):=by
 intro h ρ id w B
 obtain ⟨b,es,clock,ks,Rw,q1,q2,q3,q4,q5,q6,q7,q8,q9,q10,q11,q12,q13⟩:=B
 have hR:∀ k,Rw k=none:=fun k=>by
  cases hk:Rw k with
  | none=>rfl
  | some p=>obtain ⟨c,v⟩:=p;exact absurd (q12 k c v hk).1 (by simp)
 have hks:ks=[]:=List.eq_nil_of_length_eq_zero q4
 subst hks
 exact ⟨b,es,clock,[],Rw,q1,q2,q3,q4,q5,q6,q7,q8,fun k=>by simp [Mp.empty],fun i k x hk=>(by simp at hk),fun k a ha=>(by cases ha),fun k c v hk=>(by rw [hR k] at hk;cases hk),
  ⟨fun k c v hk=>(by rw [hR k] at hk;cases hk),fun k k' c c' v v' b hk=>(by rw [hR k] at hk;cases hk)⟩⟩
end
end Go.Av
end
/- Ranges over maps: whichever entry comes next. -/
section
set_option linter.all false
namespace Go.Av
open Go.ChangeMaps (setBlock)
section
variable {P:Program} {N:Nat} {C:Ctx} {rr:Option Nat} {L:List (Nat×AV)} {M:List (Nat×Blk)} {g:Nat} {Q:Exit→Act→World→Prop}
theorem At.zkO (id:Nat) {e:Int→AV} {Pl:List Int→Prop} {R:Act→World→Prop} (hM:mm M id=some (.iter e none Pl)) (K:∀ left,Pl left→At N C L ((id,.iter e none (fun l=>l=left))::M) g R):At N C L M g R:=by
 intro h ρ a w I
 obtain ⟨b,bm,clock,c0,es,seen,left,q1,q2,q3,q4,q5,q6,q7,q8,q9,q10⟩:=I.blk id _ hM
 refine K left q8 h ρ a w { I with blk:=fun i x hx=>?_,dom:=fun i hi=>?_ }
 · simp only [mm] at hx
   by_cases e1:i=id
   · subst e1;rw [zaf] at hx;cases hx
     exact ⟨b,bm,clock,c0,es,seen,left,q1,q2,q3,q4,q5,q6,q7,rfl,q9,q10⟩
   · rw [zae _ _ e1] at hx;exact I.blk i x hx
 · simp only [mm] at hi
   by_cases e1:i=id
   · subst e1;rw [zaf] at hi;cases hi
   · rw [zae _ _ e1] at hi;exact I.dom i hi
theorem BSim.zp5 {e:Int→AV} {c:Option Int} {Pl Pl':List Int→Prop} (h:∀ l,Pl l→Pl' l):BSim (.iter e c Pl) (.iter e none Pl'):=by
 rintro h' ρ id w ⟨b,bm,clock,c0,es,seen,left,q1,q2,q3,q4,q5,q6,q7,q8,q9,_⟩
 exact ⟨b,bm,clock,c0,es,seen,left,q1,q2,q3,q4,q5,q6,q7,h left q8,q9,fun k hk=>by cases hk⟩
theorem zoU {es:Array MapEntry} {seen:Array Nat} {x:MapEntry} {left:List Int} {k:Int} (hk:(leftOf es seen).toList.map (·.key)=left.map (fun k=>Value.int .i64 k)) (hx:x∈(leftOf es seen).toList) (hn:(es.toList.map (·.born)).Nodup) (hkey:x.key = .int .i64 k) :
 ∃ left':List Int,left.Perm (k::left')∧(leftOf es (seen.push x.born)).toList.map (·.key)=left'.map (fun k=>Value.int .i64 k):=by
 have h1:(leftOf es (seen.push x.born)).toList=(leftOf es seen).toList.filter (fun e=>e.born != x.born):=by
  unfold leftOf
  simp only [Array.toList_filter,List.filter_filter]
  congr 1
  funext e
  by_cases he:e.born=x.born
  · simp [he]
  · have:(seen.push x.born).contains e.born=seen.contains e.born:=by
     rw [Bool.eq_iff_iff];simp [he]
    rw [this]
    have hb:(e.born != x.born)=true:=by simpa using he
    rw [hb,Bool.true_and]
 have hsub:(leftOf es seen).toList.Sublist es.toList:=by
  unfold leftOf;simp only [Array.toList_filter];exact List.filter_sublist
 have hnl:((leftOf es seen).toList.map (·.born)).Nodup:=(hsub.map _).nodup hn
 generalize (leftOf es seen).toList=l at hk hx h1 hnl
 rw [h1]
 clear h1 hsub
 induction l generalizing left with
 | nil=>cases hx
 | cons y l ih=>
  cases left with
  | nil=>simp at hk
  | cons k0 left=>
  simp only [List.map_cons,List.cons.injEq] at hk
  simp only [List.map_cons,List.nodup_cons] at hnl
  rcases List.mem_cons.1 hx with rfl|hx
  · have hkk:k0=k:=by have:=hk.1;rw [hkey] at this;cases this;rfl
    subst hkk
    refine ⟨left,List.Perm.refl _,?_⟩
    rw [List.filter_cons_of_neg (by simp)]
    rw [List.filter_eq_self.2 (fun z hz=>by
     have:z.born≠x.born:=fun e=>hnl.1 (e▸List.mem_map_of_mem hz)
     simpa using this)]
    exact hk.2
  · obtain ⟨left',p1,p2⟩:=ih hk.2 hx hnl.2
    refine ⟨k0::left',(p1.cons k0).trans (List.Perm.swap _ _ _),?_⟩
    have:y.born≠x.born:=fun e=>hnl.1 (e▸List.mem_map_of_mem hx)
    rw [List.filter_cons_of_pos (by simpa using this),List.map_cons,List.map_cons,p2,hk.1]
theorem W.next {rid:Nat} {o1 o2:Oper} {it d1 d2 id:Nat} {e:Int→AV} {left:List Int} (h1:o1.op = .next (.tmp it) false) (g1:o1.guard=none) (hd1:o1.dst=some d1) (h2:o2.op = .extract (.tmp d1) 0) (g2:o2.guard=none) (hd2:o2.dst=some d2)
 (hl1:Nat.blt d1 N=true) (hl2:Nat.blt d2 N=true) (hne:Nat.beq d1 d2=false) (hL:fr L it = .lp id 0) (hM:mm M id=some (.iter e none (fun l=>l=left)))
 (K0:left=[]→At N C ((d2,.bool false)::(d1,.any)::L) M g (Q .normal))
 (K1:∀ k left',left.Perm (k::left')→At N C ((d2,.bool true)::(d1,.any)::L) ((id,.iter e (some k) (fun l=>l=left'))::M) g (Q .normal)):W P N rr C (.region rid #[o1,o2] false) L M g Q:=by
 intro h ρ a w I
 obtain ⟨b,bmo,clock,c0,es,seen,left0,q1,q2,q3,q4,q5,q6,q7,rfl,q9,q10⟩:=I.blk id _ hM
 have hlt1:d1<N:=Nat.le_of_ble_eq_true hl1
 have hlt2:d2<N:=Nat.le_of_ble_eq_true hl2
 have hne':d1≠d2:=fun e=>by subst e;simp at hne
 have hit:a.eval (.tmp it) = .pointer (some ⟨b,0,none⟩):=by
  have:=I.slot it
  rw [hL] at this
  show a.tmps.getD it undef=_
  generalize a.tmps.getD it undef=v at this
  cases this with
  | lp _ _ _ b' hb=>rw [q1] at hb;cases hb;rfl
 refine wpIn_region ?_
 have hr2:List.range #[o1,o2].size=[0,1]:=rfl
 rw [hr2,wpOpsIn_cons]
 unfold wpOpIn
 simp only [List.getElem?_toArray,List.getElem?_cons_zero]
 rw [if_pos (by simp [Region.wanted,g1])]
 have hd01:∀ c,o1.op ≠ .defer c:=fun c e=>by rw [h1] at e;cases e
 have hd02:∀ c,o2.op ≠ .defer c:=fun c e=>by rw [h2] at e;cases e
 have second:∀ (v:Bool) (vs:List Value) (w':World) (a':Act),a'.tmps.getD d1 undef = .tuple (Value.bool v::vs).toArray→Q .normal (a'.put (some d2) (.bool v)) w'→wpOpsIn (Fw rr) 1 P #[o1,o2] Q [1] a' w':=by
  intro v vs w' a' hv hq
  rw [wpOpsIn_cons]
  unfold wpOpIn
  simp only [List.getElem?_toArray,List.getElem?_cons_succ,List.getElem?_cons_zero]
  rw [if_pos (by simp [Region.wanted,g2])]
  refine ⟨fun _ _=>trivial,?_⟩
  rw [Oper.semAt_eq _ _ _ hd02]
  have hrun:(execOp a'.eval o2).run P w' = .ok (.value (.bool v)) w':=by
   unfold execOp
   have:a'.eval (.tmp d1) = .tuple (Value.bool v::vs).toArray:=hv
   simp [h2,this,Instr.extract]
  rw [hrun,Oper.uponIn_value,hd2]
  exact hq
 refine ⟨fun _ _=>trivial,?_⟩
 rw [Oper.semAt_eq _ _ _ hd01]
 have hex:∀ (r:Result Value),(Instr.next (.pointer (some ⟨b,0,none⟩)) false o1.type).run P w=r→(execOp a.eval o1).run P w=r.andThen fun v w=>.ok (.value v) w:=by
  intro r hr
  unfold execOp
  simp only [h1,hit,Sem.run_bind,hr,Sem.run_pure]
 have putL:∀ {h':Hp} {ρ':Rho} {M':Mm} {w':World} (u:Value) (v:Bool),InvH N C h' ρ' (fr L) M' g a w'→InvH N C h' ρ' (fr ((d2,.bool v)::(d1,.any)::L)) M' g ((a.put (some d1) u).put (some d2) (.bool v)) w':=fun u v I0=>
  (I0.put (d:=some d1) (v:=.any) (fun t ht=>by cases ht;exact hlt1) (.any _ u)).put (d:=some d2) (v:=.bool v) (fun t ht=>by cases ht;exact hlt2) (.bool _ v)
 have get1:∀ u,(a.put (some d1) u).tmps.getD d1 undef=u:=fun u=>by
  have:d1<a.tmps.size:=by rw [I.size];exact hlt1
  simp [Act.put,this]
 cases bmo with
 | none=>
  have hr:(Instr.next (.pointer (some ⟨b,0,none⟩)) false o1.type).run P w = .ok (.tuple #[.bool false]) w:=by
   simp only [Instr.next,getObj,Sem.run_bind,Sem.run,q2,Result.andThen]
   rfl
  rw [hex _ hr]
  simp only [Result.andThen]
  rw [Oper.uponIn_value,hd1]
  refine second false [] w _ (get1 _) ?_
  have hnil:left0=[]:=by
   have h0:=q3.2 rfl
   subst h0
   cases left0 with
   | nil=>rfl
   | cons=>simp [leftOf] at q7
  exact K0 hnil h ρ _ w (putL _ false I)
 | some bm=>
 have q3':=q3.1 bm rfl
 rcases run_next_at (P:=P) w o1.type b bm clock c0 seen es.toArray clock q2 (I.hp _ _ q3') (by simpa using q4) q6 with ⟨hz,hr⟩|⟨x,hx,w1,hw1,hr⟩
 · rw [hex _ hr]
   simp only [Result.andThen]
   rw [Oper.uponIn_value,hd1]
   refine second false [] w _ (get1 _) ?_
   have hnil:left0=[]:=by
    have h0:(leftOf es.toArray seen).toList=[]:=List.eq_nil_of_length_eq_zero (by simpa using hz)
    rw [h0] at q7
    cases left0 with
    | nil=>rfl
    | cons=>simp at q7
   exact K0 hnil h ρ _ w (putL _ false I)
 · rw [hex _ hr]
   simp only [Result.andThen]
   rw [Oper.uponIn_value,hd1]
   refine second true [x.key,x.val] _ _ (get1 _) ?_
   have hxe:x∈es:=by
    unfold leftOf at hx
    simp at hx;exact hx.1
   obtain ⟨k,k1,k2⟩:=q9 x hxe
   obtain ⟨left',p1,p2⟩:=zoU q7 hx (by simpa using q5) k1
   have I1:InvH N C h ρ (fr L) (mm M) g a w1:=by
    rcases hw1 with rfl|rfl
    · exact I
    · exact I.drew
   have hb1:w1.heap[b]? = some (.mapIter (some bm) clock seen c0):=by rcases hw1 with rfl|rfl <;> exact q2
   have hblt:b<w1.heap.size:=(Array.getElem?_eq_some_iff.1 hb1).1
   have hbm:bm≠b:=by rintro rfl;have:=I.hp _ _ q3';rw [q2] at this;cases this
   have I2:=I1.turn (w':=setBlock w1 b (.mapIter (some bm) clock (seen.push x.born) clock)) q1 (.iter e (some k) (fun l=>l=left')) rfl rfl rfl (by simp [setBlock]) (fun j hj=>by simp [setBlock,Array.getElem?_setIfInBounds_ne (Ne.symm hj)])
    ⟨b,some bm,clock,clock,es,seen.push x.born,left',q1,by simp [setBlock,hblt],q3,q4,q5,Nat.le_refl _,p2,rfl,q9,fun k' hk'=>by cases hk';exact ⟨rfl,x,seen,hxe,k1,rfl⟩⟩
   exact K1 k left' p1 h ρ _ _ (putL _ true I2)
theorem W.zkP {S:Type} {c:Code} (id:Nat) (e:Int→AV) (J:List Int→S→Prop) (Ls:S→List (Nat×AV)) (Ms:S→List (Nat×Blk)) {left0:List Int} {s0:S} (h0:J left0 s0) (hL:Agree (fr L) (Ls s0)) (hM:AgreeM M ((id,.iter e none (fun l=>l=left0))::Ms s0))
 (round:∀ left s,J left s→∀ K:Act→World→Prop,(∀ k left' s',left.Perm (k::left')→J left' s'→At N C (Ls s') ((id,.iter e (some k) (fun l=>l=left'))::Ms s') g K) →
  W P N rr C c (Ls s) ((id,.iter e none (fun l=>l=left))::Ms s) g (Exit.then K Q)):W P N rr C (.loop c) L M g Q:=by
 refine W.loop (S:=List Int×S) (fun n s=>s.1.length=n∧J s.1 s.2) (fun s=>Ls s.2) (fun s=>(id,.iter e none (fun l=>l=s.1))::Ms s.2) (n0:=left0.length) (s0:=(left0,s0)) ⟨rfl,h0⟩ hL hM (fun n s hJ K hK=>?_)
 obtain ⟨left,s⟩:=s
 obtain ⟨hn,hJ⟩:=hJ
 refine round left s hJ K (fun k left' s' hp hJ'=>?_)
 have hlen:left'.length<n:=by have:=hp.length_eq;simp at this hn;omega
 refine At.zbb ?_ (hK left'.length (left',s') hlen ⟨rfl,hJ'⟩)
 exact .cons (BSim.zp5 (fun l h=>h)) (AgreeM.refl _)
end
end Go.Av
end
/- Choices: contracts with an answer of which something holds; a region with such a call; ranges over maps that turn what is kept, in whatever order. -/
section
set_option linter.all false
namespace Go.Av
open Go.Sp
def CtrN (P:Program) (f:FuncId) (args:List AV) {T:Type} (V:T→AV) (G:T→Prop):Prop:=
 Enters P f∧∀ (h:Hp) (w:World) (vs:List Value),RelL h ρ0 args vs→(∀ b o,h b=some o→w.heap[b]? = some o)→CallsIn (Fw none) 0 P f vs.toArray w (fun e w'=>∃ r,G r∧zir h w (V r) [] e w')
def RetQN (P:Program) (fn:Func) (h0:Hp) (w0:World) {T:Type} (V:T→AV) (G:T→Prop):Exit→Act→World→Prop:=bodyPostM (Fw none) 1 P fn (fun e w'=>∃ r,G r∧zir h0 w0 (V r) [] e w')
section
variable {P:Program} {N:Nat} {Γ:Tys} {L:List (Nat×AV)} {M:List (Nat×Blk)} {g:Nat} {C:Ctx} {rr:Option Nat} {Q:Exit→Act→World→Prop} {T:Type} {V:T→AV} {G:T→Prop}
theorem At.retN (hΓ:zbC P Γ) {w0:World} {h0:Hp} {fn:Func} {v':AV} (r:T) (hG:G r) {xs:List AV} {rd:List Nat} {c:Option Prop} (hr:resL Γ (fr L) (mm M) fn.results.toList=some xs) (hv:view (mm M) (resV xs)=some (v',rd,c)) (hc:∀ q,c=some q→q) (hs:Sim v' (V r))
 (hval:∀ b o,h0 b=some o→w0.heap[b]? = some o):At N (Cp w0 h0) L M g (RetQN P fn h0 w0 V G .ret):=
 At.retR hΓ (fun _ _ h=>⟨r,hG,h⟩) hr hv hc hs hval
theorem CtrN.zb5 {f : FuncId} {fn : Func} {c : Code} {xs : List AV} (hf : P.funcs[f]? = some fn) (hn : (fn.name == "runtime.NumGoroutine") = false) (hb : fn.body = some c) (hN : fn.ntmps = N) (hx : Nat.ble xs.length N = true)
 (H:∀ w0 h0,(∀ b o,h0 b=some o→w0.heap[b]? = some o)→W P N none (Cp w0 h0) c (argL 0 xs) [] 0 (RetQN P fn h0 w0 V G)):CtrN P f xs V G:=by
 refine ⟨enters_of hf hn hb,fun h w vs hR hp=>?_⟩
 refine zc4 (n:=1) (callsIn_of_wp_marks hf hb trivial ?_)
 refine H w h hp h ρ0 _ w ?_
 have hlen:vs.length≤N:=by rw [hR.1];exact Nat.le_of_ble_eq_true hx
 refine ⟨fun t=>?_,⟨rfl,fun i c v h1=>by simp [Cp,Cq] at h1⟩,?_,hp,fun id x hx=>(by cases hx),fun _ _=>rfl,fun id li b h1=>(by cases h1),fun id id' li li' b h1=>(by cases h1),rfl,rfl,rfl,Nat.le_refl _,fun _ _ _=>rfl,fun b o hb=>hb,fun b o hb _=>hb,⟨fun _=>True,fun _ _=>trivial,fun _ _ _=>.inr trivial,trivial⟩,⟨[],rfl,List.nodup_nil,fun D hD=>(by cases hD)⟩⟩
 · rcases zhU (h:=h) (ρ:=ρ0) 0 hR t with e|⟨i,u,e1,e2,e3⟩
   · rw [e];exact .any _ _
   · have e0:t=i:=by omega
     subst e0
     have hi:t<vs.length:=(List.getElem?_eq_some_iff.1 e2).1
     have:(vs.toArray++Array.replicate (fn.ntmps - vs.toArray.size) undef).getD t undef=u:=by
      have e4:vs[t]=u:=by have:=List.getElem?_eq_getElem hi;rw [this] at e2;exact Option.some.inj e2
      simp [Array.getElem?_append,hi,e4]
     rw [this]
     exact e3
 · simp [hN];omega
theorem CtrN.one {f:FuncId} {xs:List AV} (H:CtrN P f xs V G) {r0:T} (h1:∀ r,G r→r=r0):Ctr P f xs (V r0):=
 ⟨H.1,fun h w vs hR hp=>(H.2 h w vs hR hp).mono (fun _ _ ⟨r,hG,h2⟩=>h1 r hG▸h2)⟩
theorem W.zmt (E:Env P Γ) {id:Nat} {ops:Array Oper} (own:List Nat) (k:Nat) (rvs1 rvs2:List RV) {A1:Acc} {A2:T→Acc} {y:Oper} {post:List Oper} {gf:FuncId} {args:Array Operand} {ts:Array TypeId} {d:Nat} {xs:List AV}
 (hk:ops.toList.drop k=y::post) (hr1:runR Γ own ops.toList (ops.toList.take k) rvs1 L M=some A1) (hyo:y.op = .call { callee:=.value (.func gf),args:=args,argTypes:=ts }) (hyd:y.dst=some d) (hg:y.guard=none)
 (hxs:zgQ (mm A1.M) (zfC (evO (fr A1.L)) args.toList)=some (xs,[],none))
 (hr2:∀ r,runR Γ own ops.toList post rvs2 ((d,V r)::A1.L) A1.M=some (A2 r)) (hd:zjC N ops.toList=true)
 (hcs1:AllP A1.cs) (hrq1:RqOk P A1.rq) (hcs2:∀ r,AllP (A2 r).cs) (hrq2:∀ r,RqOk P (A2 r).rq) (hcl:∀ r,(V r).cl=true) (hC:CtrN P gf xs V G)
 (K:∀ r,G r→At N C (A2 r).L (A2 r).M g (Q .normal)) (hz:FzOk own C:=by first|exact .inl rfl|exact .inr (fun _ h=>h)):W P N none C (.region id ops false) L M g Q:=by
 intro h ρ a w I
 refine wpIn_region ?_
 have hlen:k<ops.toList.length:=by
  rcases Nat.lt_or_ge k ops.toList.length with h|h
  · exact h
  · rw [List.drop_eq_nil_of_le h] at hk;cases hk
 have hsplit:ops.toList=ops.toList.take k++y::post:=by rw [← hk,List.take_append_drop]
 have htk:(ops.toList.take k).length=k:=by rw [List.length_take];omega
 have hsize:ops.size=k+(1+post.length):=by
  have:=congrArg List.length hsplit
  rw [List.length_append,htk,List.length_cons] at this
  simp at this;omega
 have hrange:List.range ops.size=List.range' 0 (ops.toList.take k).length++(k::List.range' (k+1) post.length):=by
  rw [htk,List.range_eq_range',hsize,Nat.add_comm 1,← List.range'_append_1,Nat.zero_add,List.range'_succ]
 rw [hrange]
 obtain ⟨rs,T1,_⟩:=zda (N:=N) E.ty E.depth (ops.toList.take k) rvs1 L M hr1 hcs1.mem hrq1
 have hyk:ops[k]? = some y:=by
  rw [← Array.getElem?_toList,hsplit,List.getElem?_append_right (by omega),htk];simp
 have hpost:∀ j,post[j]? = ops[k+1+j]? := fun j=>by
  rw [← Array.getElem?_toList,hsplit,List.getElem?_append_right (by omega),htk,show k+1+j - k=j+1 by omega];simp
 have hmem:∀ o,o∈post→o∈ops.toList:=fun o ho=>by rw [hsplit];simp [ho]
 have hnd:∀ c,y.op ≠ .defer c:=fun c e=>by rw [hyo] at e;cases e
 have hdN:d<N:=zcu hd y (by rw [hsplit];simp) d hyd
 refine T1.lexK hz _ (fun h ρ a w I=>?_) 0 h ρ a w I (fun o ho=>zcu hd o (List.mem_of_mem_take ho)) (fun j=>?_)
 rotate_left
 · rw [List.getElem?_take,← Array.getElem?_toList,Nat.zero_add]
   by_cases hj:j<k
   · left;rw [if_pos hj]
   · right;omega
 rw [wpOpsIn_cons]
 unfold wpOpIn
 simp only [hyk]
 have hgs:Region.wanted y (yielded ops a.tmps)=true:=by unfold Region.wanted;rw [hg]
 rw [hgs,if_pos rfl]
 have hop:∀ z,z∈y.op.operands→Rel h ρ (evO (fr A1.L) z) (a.eval z):=fun z hz=>zgf (ops:=ops) (o:=y) I (fun _ _=>rfl) hz
 have hargs:RelL h ρ (zfC (evO (fr A1.L)) args.toList) (args.toList.map a.eval):=zee args.toList (fun z hz=>hop z (zed hyo hz))
 have hview:RelL h ρ0 xs (args.toList.map a.eval):=zfs I (Le.refl h) hargs hxs (fun id hid=>by cases hid) nofun (fun id hid=>by cases hid)
 refine ⟨fun _ _=>trivial,?_⟩
 rw [Oper.semAt_eq _ _ _ hnd,zgz (us:=[]) (ws:=[]) hyo rfl w]
 simp only [List.nil_append,List.append_nil]
 rw [hC.1]
 refine ⟨fun e=>(by cases e),?_⟩
 refine zc4 ((hC.2 h w _ hview I.hp).mono fun e w' he=>?_)
 obtain ⟨r,hG,he⟩:=he
 cases e with
 | panicked ch=>exact he.elim
 | outgrown=>exact he.elim
 | returned x=>
  obtain ⟨h',ρc,q1,q2,q3,q4,q5⟩:=he
  have hx:Rel h' ρ (V r) x:=q4.zdO (hcl r)
  have I1:=I.below q1 q2 q3
  have hp:=I1.put (d:=y.dst) (fun t ht=>by rw [hyd] at ht;cases ht;exact hdN) hx
  obtain ⟨rs2,T2,_⟩:=zda (N:=N) E.ty E.depth post rvs2 _ _ (hr2 r) (hcs2 r).mem (hrq2 r)
  rw [hyd] at hp ⊢
  exact T2.lex hz (K r hG) (k+1) h' ρ _ w' hp (fun o ho=>zcu hd o (hmem o ho)) (fun j=>.inl (hpost j))
theorem W.zdV {S:Type} {body:Int→S→(S→Option Unit)→Option Unit} {exit:S→Option Unit} {m0:Nat} {ks left0:List Int} {s0:S} {r:Unit} {c:Code} (H:Sp.zdV body exit m0 ks s0=some r) (hp:ks.Perm left0) (hm:left0.length=m0) (id:Nat) (e:Int→AV)
 (Ls:S→List (Nat×AV)) (Ms:S→List (Nat×Blk)) (hL:Agree (fr L) (Ls s0)) (hM:AgreeM M ((id,.iter e none (fun l=>l=left0))::Ms s0))
 (round:∀ left s,Sp.zdV body exit left.length left s=some r→(∀ k,k∈left→k∈left0)→∀ K:Act→World→Prop,(∀ k left' s',left.Perm (k::left')→Sp.zdV body exit left'.length left' s'=some r→At N C (Ls s') ((id,.iter e (some k) (fun l=>l=left'))::Ms s') g K) →
  W P N rr C c (Ls s) ((id,.iter e none (fun l=>l=left))::Ms s) g (Exit.then K Q)):W P N rr C (.loop c) L M g Q:=by
 refine W.zkP id e (fun left s=>Sp.zdV body exit left.length left s=some r∧∀ k,k∈left→k∈left0) Ls Ms ⟨by rw [← zjl hp,hm];exact H,fun _ h=>h⟩ hL hM (fun left s hJ K hK=>round left s hJ.1 hJ.2 K (fun k left' s' hp' hJ'=>hK k left' s' hp' ⟨hJ',fun j hj=>hJ.2 j (hp'.mem_iff.2 (List.mem_cons_of_mem _ hj))⟩))
end
end Go.Av
end
/- slices.Sort at []int, whose contract the library has, as a function that a slice is lent to. -/
section
set_option linter.all false
namespace Go.Av
open Go Go.Sort Go.Proofs
theorem zpP {P:Program} {f:FuncId} (hent:Enters P f)
 (hC:∀ (blk off cap:Nat) (zs:List Int) (w:World),Holds (Value.int .i64) w blk off zs.toArray→blk<w.heap.size→zs.length<4611686018427387904 →
  Calls P f #[.slice (some ⟨blk,off,none⟩) zs.length cap] w fun e w'=>e = .returned (.tuple #[])∧∃ n os,w'=grow (putRow (Value.int .i64) (Sort.ahead w n) blk off (zs.mergeSort fun x y=>decide (x≤y)).toArray) os)
 (hN:∀ (p:Option Addr) (cap:Nat) (w:World),Calls P f #[.slice p 0 cap] w fun e w'=>e = .returned (.tuple #[])∧w'=w)
 (ty:Nat) (l:List Int) {r:List Int} (H:Sp.zco l=some r) :
 CtrO P f [.buf 90000 l.length] [(90000,bufL ty 1 (fun x=>[.int .i64 x]) l)] (.tup []) [(90000,bufL ty 1 (fun x=>[.int .i64 x]) r)]:=by
 unfold Sp.zco at H
 obtain ⟨hlen,H⟩:=Sp.zaa H
 cases H
 refine ⟨hent,fun h w ρ vs hR hp O=>?_⟩
 obtain ⟨hl,hg⟩:=hR
 match vs,hl with
 | [v],_=>
 have hv:=hg 0 _ v rfl rfl
 obtain ⟨v0,xs,b1,b2,b3,b4,b5⟩:=O.blk 90000 _ rfl
 have:v=v0:=by
  generalize hn:l.length=n at hv
  cases hv with
  | buf _ _ _ n2 sz2 _ v' hb hle h1 he=>rw [b1] at hb;cases hb;exact he hn.symm
 subst this
 have wide:∀ {R:Ending→World→Prop} {args:Array Value},Calls P f args w R→CallsIn (Fw none) 0 P f args w R:=fun hc=>callsIn_wide.2 hc
 have hxs:xs=l.map (Value.int .i64):=by
  have hlx:xs.length=l.length:=by have:=b2.1;omega
  refine List.ext_getElem (by simp [hlx]) (fun i h1 h2=>?_)
  have:=b5 i 0 (.int .i64 (l.getD i default)) xs[i] (by omega) rfl (by rw [Nat.mul_one,Nat.add_zero];exact List.getElem?_eq_getElem h1)
  generalize xs[i]=v at this ⊢
  cases this
  rw [List.getElem_map,List.getD_eq_getElem?_getD,List.getElem?_eq_getElem (by omega)];rfl
 rcases b2.2 with ⟨hnil,hl0⟩|⟨g,cap,cur,rfl,hg0,hcur,q1,q2,q3,q4⟩
 · subst hnil
   have e0:l=[]:=List.length_eq_zero_iff.1 hl0
   subst e0
   refine (wide (hN none 0 w)).mono (fun en w' he=>?_)
   obtain ⟨rfl,rfl⟩:=he
   exact ⟨h,ρ,rfl,rfl,rfl,Nat.le_refl _,fun k _ _=>rfl,fun b o hb=>hb,fun b o hb=>.inl hb,.tup _ _ [] rfl (fun i c v hc=>by simp at hc),⟨O.blk,O.dom,O.own,O.inj⟩,fun id li b q1 q2=>.inl ⟨id,li,q1,q2⟩,fun id li li' q1 q2=>by rw [q1] at q2;cases q2;exact LI.le_refl _⟩
 · have hgs:g<w.heap.size:=zgc hcur
   rw [Nat.mul_one] at q3 q4
   have hold:=holds_of_blockI (ss:=l) hcur (by rw [q4,hxs])
   have hc:=hC g 0 cap l w hold hgs hlen
   refine (wide hc).mono (fun en w' he=>?_)
   obtain ⟨rfl,n,os,rfl⟩:=he
   rw [Sp.zmx]
   obtain ⟨s1,s2,s3,s4,s5⟩:=grownBy_sortedI (w:=w) (g:=g) (n:=n) (os:=os) (Sp.isort l).toArray
   have hin:zcw ρ g:=⟨90000,_,b1,rfl⟩
   refine ⟨h,ρ,s1,s2,s3,s4,fun k hk hn=>s5 k hk (fun e=>hn (by cases e;exact hin)),fun b o hb=>hb,fun b o hb=>.inl hb,.tup _ _ [] rfl (fun i c v hc=>by simp at hc),⟨fun id x hx=>?_,fun id hid=>?_,fun id li b q1 q2=>⟨(O.own id li b q1 q2).1,Nat.lt_of_lt_of_le (O.own id li b q1 q2).2 s4⟩,O.inj⟩,fun id li b q1 q2=>.inl ⟨id,li,q1,q2⟩,fun id li li' q1 q2=>by rw [q1] at q2;cases q2;exact LI.le_refl _⟩
   · have hid:id=90000:=by
      by_cases e:id=90000
      · exact e
      · simp only [mm] at hx;rw [zae _ _ e] at hx;cases hx
     subst hid
     simp only [mm] at hx;rw [zaf] at hx;cases hx
     have own:=ownsRow_sortedI (w:=w) (base:=0) (g:=g) (cap:=cap) (n:=n) (os:=os) (ss:=l) (ts:=Sp.isort l) (Sp.zej l) hg0 hcur q1 q2 (by rw [q3,Nat.mul_one])
     refine ⟨_,(Sp.isort l).map (Value.int .i64),by rw [Sp.zej];exact b1,by rw [Sp.zej];exact own,fun i _=>rfl,fun x hx=>?_,fun i j c x hi hc hx=>?_⟩
     · obtain ⟨z,_,rfl⟩:=List.mem_map.1 hx;rfl
     · cases j with
       | succ j=>simp at hc
       | zero=>
        have hc:AV.int .i64 ((Sp.isort l).getD i default)=c:=by simpa using hc
        subst hc
        rw [Nat.mul_one,Nat.add_zero,List.getElem?_map,List.getElem?_eq_getElem hi] at hx
        cases hx
        rw [List.getD_eq_getElem?_getD,List.getElem?_eq_getElem hi]
        exact .int _ _ _
   · refine O.dom id ?_
     by_cases e:id=90000
     · subst e;simp only [mm] at hid;rw [zaf] at hid;cases hid
     · simp only [mm];rw [zae _ _ e]
end Go.Av
end
/- Steps in one: two commands of which the first is a region; what reads the same. -/
section
set_option linter.all false
namespace Go.Av
open Go
theorem Sim.q {x y:AV} (h:x=y:=by first|rfl|(simp;done)|omega|(simp;omega)):Sim x y:=.of_eq h
theorem Sim.qi {x y:AV} (h:x=y:=by first|rfl|(simp;done)|omega|(refine intEq ?_;first|omega|(simp;done)|(simp;omega))|(simp;omega)):Sim x y:=.of_eq h
theorem Sim.qb {x y:AV} (h:x=y:=by refine zhT ?_;first|(simp [Sp.zbA];done)|omega|(simp [Sp.zbA];omega)|(simp only [List.length_set] at *;omega)|rfl):Sim x y:=.of_eq h
theorem Sim.qc {x y:AV} (h:x=y:=by refine zhT ?_;first|rfl|(simp;done)|omega|(simp;omega)):Sim x y:=.of_eq h
theorem BSim.q {x y:Blk} (h:x=y:=by first|rfl|(simp;done)|omega|(simp;omega)):BSim x y:=.of_eq h
theorem BSim.setS {T:Type} [Inhabited T] {ty sz n:Nat} {f:T→List AV} {e:Nat→List AV} {l:List T} (h:Seg f n e l) {i:Nat} {es:List AV} (x:T) (hs:SimL es (f x)) :
 BSim (.buf ty sz n (fun k=>if k=i then es else e k)) (bufL ty sz f (l.set i x)):=by
 obtain ⟨rfl,h1⟩:=h
 obtain ⟨hl,hss⟩:=hs.spec
 have eln:(l.set i x).length=l.length:=List.length_set
 intro h ρ id w B
 obtain ⟨v,xs,q1,q2,q3,q4,q5⟩:=B
 have hget:∀ k,k<l.length→(l.set i x).getD k default=if k=i then x else l.getD k default:=by
  intro k hk
  simp only [List.getD_eq_getElem?_getD]
  by_cases e:k=i
  · subst e;rw [List.getElem?_set_self hk,if_pos rfl];rfl
  · rw [List.getElem?_set_ne (fun h=>e h.symm),if_neg e]
 refine ⟨v,xs,by rw [eln];exact q1,by rw [eln];exact q2,fun k hk=>?_,q4,fun k j c y hk hc hy=>?_⟩
 · rw [eln] at hk
   have:=q3 k hk
   dsimp only at this ⊢
   rw [hget k hk]
   by_cases ek:k=i
   · rw [if_pos ek] at this ⊢;rw [← hl];exact this
   · rw [if_neg ek] at this ⊢;rw [← h1 k hk];exact this
 · rw [eln] at hk
   have hq:=q5 k j
   dsimp only at hq hc
   rw [hget k hk] at hc
   by_cases ek:k=i
   · rw [if_pos ek] at hc
     have hj:j<es.length:=by rw [hl];exact (List.getElem?_eq_some_iff.1 hc).1
     have h3:es[j]? = some es[j]:=List.getElem?_eq_getElem hj
     exact hss _ _ _ h3 hc _ _ _ (hq _ y hk (by rw [if_pos ek];exact h3) hy)
   · rw [if_neg ek] at hc
     exact hq c y hk (by rw [if_neg ek,h1 k hk];exact hc) hy
variable {P:Program} {Γ:Tys} {N:Nat} {C:Ctx} {L:List (Nat×AV)} {M:List (Nat×Blk)} {g:Nat} {rr:Option Nat} {Q:Exit→Act→World→Prop}
theorem W.sr (E:Env P Γ) {id:Nat} {ops:Array Oper} {draw:Bool} {y:Code} (own:List Nat) (rvs:List RV) {A:Acc} (ts ids:List Nat) {L':List (Nat×AV)} {M':List (Nat×Blk)} (hr:runR Γ own ops.toList ops.toList rvs L M=some A) (hd:zjC N ops.toList=true) (ho:znD draw ops A.ft=true) (hcs:AllP A.cs)
 (hrq:RqOk P A.rq) (K:W P N rr C y L' M' g Q) (hL:zhI ids A.L ts=some L':=by exact rfl) (hM:zdA ids A.M ids=some M':=by exact rfl) (hs:zdh ids C.savA=true:=by exact rfl) (hz:FzOk own C:=by first|exact .inl rfl|exact .inr (fun _ h=>h)):W P N rr C (.seq (.region id ops draw) y) L M g Q:=
 W.seq (W.region E own rvs hr hd ho hcs hrq (At.keep hL hM (At.zad K) hs) hz)
theorem W.rg (E:Env P Γ) {id:Nat} {ops:Array Oper} {draw:Bool} {y:Code} {A:Acc} (ts ids:List Nat) {L':List (Nat×AV)} {M':List (Nat×Blk)} (K:W P N rr C y L' M' g Q) (hr:runR Γ [] ops.toList ops.toList [] L M=some A:=by exact rfl) (hd:zjC N ops.toList=true:=by exact rfl) (ho:znD draw ops A.ft=true:=by exact rfl) (hcs:AllP A.cs:=by exact .nil)
 (hrq:RqOk P A.rq:=by exact .nil) (hL:zhI ids A.L ts=some L':=by exact rfl) (hM:zdA ids A.M ids=some M':=by exact rfl) (hs:zdh ids C.savA=true:=by exact rfl):W P N rr C (.seq (.region id ops draw) y) L M g Q:=
 W.sr E [] [] ts ids hr hd ho hcs hrq K hL hM hs (.inl rfl)
theorem rmI {p q c:Prop} (hc:c) (h1:p:=by first|rfl|(simp;done)|omega|(simp;omega)) (h2:c→q:=by intro this;first|simpa using this|(unfold room at this ⊢;simp at this ⊢;omega)):p∧q:=⟨h1,h2 hc⟩
theorem ltD {i n:Nat} (h:decide ((i:Int)<((n:Nat):Int))=true):i<n:=by have:=of_decide_eq_true h;omega
theorem geD {i n:Nat} (h:decide ((i:Int)<((n:Nat):Int))=false):n≤i:=by have:=of_decide_eq_false h;omega
theorem inD {i n:Nat} (h:i<n):0≤(i:Int)∧(i:Int)<((n:Nat):Int):=⟨by omega,by omega⟩
theorem incD {i n:Nat} (h:i<n) (hn:n≤maxLen):inI ((i:Int)+1):=by unfold inI;unfold maxLen at hn;omega
theorem Sim.o {x y:AV} (h:Sim x y:=by first|exact Sim.refl _|exact Sim.nil _ _):Sim x y:=h
theorem W.co {T:Type} {u v r:T} {op:Operand} {x y:Code} {b:Bool} (H:(bif b then u else v)=r) (hb:evO (fr L) op = .bool b) (ht:b=true→u=r→W P N rr C x L M g Q) (hf:b=false→v=r→W P N rr C y L M g Q):W P N rr C (.cond op x y) L M g Q:=
 W.cond hb (fun h=>ht h (Sp.zbJ H h)) (fun h=>hf h (Sp.zp1 H h))
theorem W.r1 (E:Env P Γ) {id:Nat} {ops:Array Oper} {draw:Bool} {A:Acc} {c:Prop} (hc:c) (ts ids:List Nat) {L':List (Nat×AV)} {M':List (Nat×Blk)} (K:At N C L' M' g (Q .normal)) (hr:runR Γ [] ops.toList ops.toList [] L M=some A:=by exact rfl) (hd:zjC N ops.toList=true:=by exact rfl) (ho:znD draw ops A.ft=true:=by exact rfl) (hA:A.cs=[c]:=by exact rfl)
 (hrq:RqOk P A.rq:=by exact .nil) (hL:zhI ids A.L ts=some L':=by exact rfl) (hM:zdA ids A.M ids=some M':=by exact rfl) (hs:zdh ids C.savA=true:=by exact rfl):W P N rr C (.region id ops draw) L M g Q:=
 W.region E [] [] hr hd ho (hA ▸ .cons hc .nil) hrq (At.keep hL hM K hs) (.inl rfl)
theorem At.rz (E:Env P Γ) {w0:World} {h0:Hp} {fn:Func} {v v':AV} {xs:List AV} {rd:List Nat} (hval:∀ b o,h0 b=some o→w0.heap[b]? = some o) (hr:resL Γ (fr L) (mm M) fn.results.toList=some xs:=by exact rfl) (hv:view (mm M) (resV xs)=some (v',rd,none):=by exact rfl) (hs:Sim v' v:=by exact .refl _):At N (Cp w0 h0) L M g (RetQ P fn h0 w0 v [] .ret):=
 At.ret E.ty hr hv nofun hs hval
theorem Ctr.ob {f : FuncId} {fn : Func} {c : Code} {xs : List AV} {v : AV} {B : List (Nat × Blk)} (hf : P.funcs[f]? = some fn) (hN : fn.ntmps = N) (H : ∀ w0 h0, (∀ b o, h0 b = some o → w0.heap[b]? = some o) → W P N none (Cp w0 h0) c (argL 0 xs) [] 0 (RetQ P fn h0 w0 v B)) (hn : (fn.name == "runtime.NumGoroutine") = false := by kernel_rfl) (hb : fn.body = some c := by exact rfl) (hx : Nat.ble xs.length N = true := by exact rfl) : Ctr P f xs v B := .zb5 hf hn hb hN hx H
end Go.Av
namespace Go.Av
section
variable {N:Nat} {C:Ctx} {L:List (Nat×AV)} {M:List (Nat×Blk)} {g:Nat} {R:Act→World→Prop}
theorem zpb {K:List Nat} {M:List (Nat×Blk)}:∀ {is:List Nat} {M'':List (Nat×Blk)},zdA K M is=some M''→∀ i b,mm M'' i=some b→i∈is:=by
 intro is
 induction is with
 | nil=>intro M'' h i b hb;simp only [zdA] at h;cases h;cases hb
 | cons s is ih=>
  intro M'' h i b hb
  simp only [zdA] at h
  split at h
  · cases h
  · split at h
    · split at h
      · rename_i r hr
        cases h
        simp only [mm,upd] at hb
        split at hb
        · rename_i hbe;have:=Nat.eq_of_beq_eq_true hbe;subst this;exact List.mem_cons_self ..
        · exact List.mem_cons_of_mem _ (ih hr i b hb)
      · cases h
    · cases h
theorem At.shrink (t id d:Nat) {n b ty sz n':Nat} {e:Nat→List AV} {K ts:List Nat} {L':List (Nat×AV)} {M':List (Nat×Blk)} (ht:fr L t = .sb id n 0 b) (hM:mm M id=some (.buf ty sz n' e)) (hn:n=n') (hbn:b≤n') (hK:zbf K id=false) (hdK:zbf K d=false) (hL:zhI K L ts=some L')
 (hMK:zdA K M K=some M') (Kk:At N C ((t,.buf d b)::L') ((d,.buf ty sz b e)::M') g R) (hs:zdh K C.savA=true:=by exact rfl):At N C L M g R:=by
 intro h ρ a w I
 subst hn
 obtain ⟨v0,us,k1,k2,k3,k5,k4⟩:=I.blk id _ hM
 obtain ⟨ρ',hρ,I'⟩:=I.forget hL hMK hs
 have hM2:=fun i z=>zpb hMK i z
 have hslot:=I.slot t
 rw [ht] at hslot
 obtain ⟨gg,cap,hv0,hv⟩:∃ gg cap,v0 = .slice (some ⟨gg,0,none⟩) n cap∧a.tmps.getD t undef = .slice (some ⟨gg,0,none⟩) b cap:=by
  generalize a.tmps.getD t undef=x at hslot
  cases hslot with
  | sb _ _ _ _ _ n1 sz1 _ v1 hb hle h1 he=>
   rw [k1] at hb;cases hb
   obtain ⟨gg,cap,q1,q2⟩:=he rfl
   refine ⟨gg,cap,q1,?_⟩
   rw [q2]
   split <;> simp
 subst hv0
 have hidK:id ∉ K:=fun hk=>by rw [zeH hk] at hK;cases hK
 have hdnK:d ∉ K:=fun hk=>by rw [zeH hk] at hdK;cases hdK
 have hinK:∀ i li,ρ' i=some li→i∈K∧ρ i=some li:=fun i li hi=>by
  have hk:i∈K:=by
   cases hz:mm M' i with
   | none=>rw [I'.dom i hz] at hi;cases hi
   | some z=>exact hM2 i z hz
  exact ⟨hk,by rw [← hρ i hk];exact hi⟩
 have hd0:ρ' d=none:=by
  cases hz:ρ' d with
  | none=>rfl
  | some li=>exact absurd (hinK d li hz).1 hdnK
 have hMd:mm M' d=none:=by
  cases hz:mm M' d with
  | none=>rfl
  | some y=>exact absurd (hM2 d y hz) hdnK
 let ρ2:Rho:=upd ρ' d (some (.sl b sz (.slice (some ⟨gg,0,none⟩) b cap)))
 have hd2:ρ2 d=some (.sl b sz (.slice (some ⟨gg,0,none⟩) b cap)):=zaf _ _ _
 have hoth:∀ j,j≠d→ρ2 j=ρ' j:=fun j hj=>zae _ _ hj
 have hrl:∀ j l,ρ' j=some l→∃ l',ρ2 j=some l'∧l.le l':=fun j l hj=>by
  have hne:j≠d:=fun e1=>by subst e1;rw [hd0] at hj;cases hj
  exact ⟨l,by rw [hoth j hne];exact hj,.inl rfl⟩
 have hout:∀ i li k,ρ' i=some li→li.owns k→k≠gg:=fun i li k q1 q2 e1=>by
  subst e1
  obtain ⟨hk,q3⟩:=hinK i li q1
  have:=I.inj i id li _ k q3 k1 q2 rfl
  subst this;exact hidK hk
 have hgo:=I.own id _ gg k1 rfl
 have hmul:b * sz≤n * sz:=Nat.mul_le_mul_right _ hbn
 have I2:InvH N C h ρ2 (fr L') (mm ((d,.buf ty sz b e)::M')) g a w:=by
  refine { I' with slot:=fun u=>(I'.slot u).mono (Le.refl _) hrl,sav:=⟨I'.sav.1,fun i c x q1 q2=>(I'.sav.2 i c x q1 q2).mono (Le.refl _) hrl⟩,blk:=fun i x hx=>?_,dom:=fun i hi=>?_,own:=fun i li k q1 q2=>?_,inj:=fun i i' li li' k q1 q1' q2 q2'=>?_,gst:=?_ }
  · simp only [mm] at hx
    by_cases e1:i=d
    · subst e1
      rw [zaf] at hx;cases hx
      rcases k2.2 with ⟨q,_⟩|⟨g1,cap1,cur,q,q0,q3,q4,q5,q6,q7⟩
      · cases q
      cases q
      refine ⟨_,us.take (b * sz),hd2,⟨by rw [List.length_take,k2.1];omega,.inr ⟨gg,cap,cur,rfl,q0,q3,Nat.le_trans hbn q4,q5,q6,?_⟩⟩,fun j hj=>k3 j (by omega),fun x hx=>k5 x (List.mem_of_mem_take hx),fun j k c x hj hc hx=>?_⟩
      · rw [← q7,List.take_take,Nat.min_eq_left hmul]
      · rw [List.getElem?_take] at hx
        split at hx
        · exact k4 j k c x (by omega) hc hx
        · cases hx
    · rw [zae _ _ e1] at hx
      exact (I'.blk i x hx).keep (Le.refl _) (hoth i e1) hrl (fun _ _ _ _=>rfl)
  · simp only [mm] at hi
    by_cases e1:i=d
    · subst e1;rw [zaf] at hi;cases hi
    · rw [zae _ _ e1] at hi;rw [hoth i e1];exact I'.dom i hi
  · by_cases e1:i=d
    · subst e1
      rw [hd2] at q1;cases q1
      have e2:gg=k:=by have:some gg=some k:=q2;exact Option.some.inj this
      subst e2;exact hgo
    · rw [hoth i e1] at q1;exact I'.own i li k q1 q2
  · have key:∀ k,(LI.sl b sz (.slice (some ⟨gg,0,none⟩) b cap)).owns k→gg=k:=fun k q=>Option.some.inj (show some gg=some k from q)
    by_cases e1:i=d
    · by_cases e2:i'=d
      · rw [e1,e2]
      · rw [e1,hd2] at q1;cases q1
        rw [hoth i' e2] at q1'
        exact absurd (key k q2).symm (hout i' li' k q1' q2')
    · by_cases e2:i'=d
      · rw [e2,hd2] at q1';cases q1'
        rw [hoth i e1] at q1
        exact absurd (key k q2').symm (hout i li k q1 q2)
      · rw [hoth i e1] at q1;rw [hoth i' e2] at q1'
        exact I'.inj i i' li li' k q1 q1' q2 q2'
  · obtain ⟨X,x1,x2,x3⟩:=I.gst
    refine ⟨X,fun k ⟨i,li,q1,q2⟩=>?_,x2,x3⟩
    by_cases e1:i=d
    · subst e1
      rw [hd2] at q1;cases q1
      exact x1 k ⟨id,_,k1,q2⟩
    · rw [hoth i e1] at q1
      exact x1 k ⟨i,li,(hinK i li q1).2,q2⟩
 refine Kk h ρ2 a w { I2 with slot:=fun u=>?_ }
 simp only [fr,put]
 split
 · rename_i hb
   have:=Nat.eq_of_beq_eq_true hb
   subst this
   rw [hv]
   exact .buf _ _ _ _ _ _ _ hd2 (Nat.le_refl _) rfl (fun _=>rfl)
 · exact I2.slot u
end
theorem Seg.cleared {T:Type} [Inhabited T] {f:T→List AV} {n a b:Nat} {e:Nat→List AV} {z:List AV} {l:List T} (h:Seg f n e l) (x:T) (hz:z=f x) (hb:b≤l.length):Seg f n (fun q=>if a≤q∧q<b then z else e q) (Sp.zbA l a (b - a) (fun _=>x)):=by
 obtain ⟨rfl,g1⟩:=h
 subst hz
 refine ⟨by simp [Sp.zbA],fun k hk=>?_⟩
 have:(Sp.zbA l a (b - a) (fun _=>x)).getD k default=if a≤k∧k<a+(b - a) then x else l.getD k default:=by
  simp only [Sp.zbA,List.getD_eq_getElem?_getD,List.getElem?_map,List.getElem?_range hk,Option.map_some,Option.getD_some]
 rw [this]
 dsimp only
 by_cases h:a≤k∧k<b
 · rw [if_pos h,if_pos (by omega)]
 · rw [if_neg h,if_neg (by omega)];exact g1 k hk
theorem Seg.first {T:Type} [Inhabited T] {f:T→List AV} {n b:Nat} {e:Nat→List AV} {l:List T} (h:Seg f n e l) (hb:b≤n):Seg f b e (l.take b):=by
 obtain ⟨rfl,g1⟩:=h
 refine ⟨by rw [List.length_take];omega,fun k hk=>?_⟩
 rw [g1 k (by omega)]
 simp [List.getD_eq_getElem?_getD,List.getElem?_take,hk]
end Go.Av
end
/- Maps that are nil, values of maps read otherwise, maps copied; slices of which it is known whether they are nil. -/
section
set_option linter.all false
namespace Go.Av
open Go.Sp
theorem At.kp {N:Nat} {C:Ctx} {L:List (Nat×AV)} {M:List (Nat×Blk)} {g:Nat} {R:Act→World→Prop} (ts ids:List Nat) {L':List (Nat×AV)} {M':List (Nat×Blk)} (K:At N C L' M' g R) (hL:zhI ids L ts=some L':=by exact rfl) (hM:zdA ids M ids=some M':=by exact rfl) (hs:zdh ids C.savA=true:=by exact rfl):At N C L M g R:=At.keep hL hM K hs
theorem Sim.zha {T:Type} [Inhabited T] {z:Value} {f:T→AV} {zs:List Value} (hz:z = .agg zs.toArray) (hs:Sim (.agg (zeros zs)) (f default)):Sim .nilMap (romL z f Mp.empty):=by
 subst hz
 intro h ρ v H
 cases H
 exact .romN _ _ _ _ (fun _=>rfl) (fun k=>hs h ρ0 _ (.agg _ _ _ (RelL.zeros h ρ0 zs).1 (RelL.zeros h ρ0 zs).2))
section
variable {T:Type} [Inhabited T] {f:T→AV} {dom:Int→Bool} {e:Int→AV} {n:Nat} {m:Mp T}
def zhn (f:T→AV) (dom:Int→Bool) (e:Int→AV) (n:Nat) (m:Mp T):Prop:=(∀ k,dom k=(m.get k).isSome)∧(∀ k,Sim (e k) (f ((m.get k).getD default)))∧n=m.card
theorem zhn.refl (f:T→AV) (m:Mp T):zhn f (fun k=>(m.get k).isSome) (fun k=>f ((m.get k).getD default)) m.card m:=⟨fun _=>rfl,fun _=>.refl _,rfl⟩
theorem zhn.empty {e:AV} (he:Sim e (f default)):zhn f (fun _=>false) (fun _=>e) 0 Mp.empty:=⟨fun _=>rfl,fun _=>he,rfl⟩
theorem zhn.set (h:zhn f dom e n m) {q:Int} (x:T) {ex:AV} (hx:Sim ex (f x)) :
 zhn f (fun j=>decide (j=q) || dom j) (fun j=>bif decide (j=q) then ex else e j) (bif dom q then n else n+1) (m.set q x):=by
 obtain ⟨h1,h2,rfl⟩:=h
 refine ⟨fun k=>?_,fun k=>?_,?_⟩
 · by_cases hk:k=q
   · subst hk;simp [Mp.set]
   · simp [Mp.set,hk,h1]
 · by_cases hk:k=q
   · subst hk;simpa [Mp.set] using hx
   · simpa [Mp.set,hk] using h2 k
 · rw [h1]
   simp only [Mp.set]
   cases (m.get q).isSome <;> rfl
theorem BSim.zoE {z:Value} (h:zhn f dom e n m):BSim (.map z dom e n) (mapL z f m):=by
 obtain ⟨h1,h2,rfl⟩:=h
 intro h' ρ id w B
 obtain ⟨b,es,clock,ks,q1,q2,q3,q4,q5,q6,q7,q8,q9,qz,q10⟩:=B
 exact ⟨b,es,clock,ks,q1,q2,q3,q4,q5,q6,q7,q8,fun k=>(by have:=q9 k;rw [h1 k] at this;exact this),fun k hk=>h2 k _ _ _ (qz k ((h1 k).trans hk)),fun i k y hk hy=>h2 k _ _ _ (q10 i k y hk hy)⟩
def ziU (z:Value) (f:T→AV) (m:Mp T) (left:List Int):Blk:=
 .map z (fun k=>(m.get k).isSome && !decide (k∈left)) (fun k=>bif decide (k∈left) then f default else f ((m.get k).getD default)) (m.card - left.length)
theorem BSim.zpr {z:Value} {left:List Int} (hl:left.Nodup∧left.length=m.card∧∀ k,(m.get k).isSome=true↔k∈left):BSim (mapL z f (Mp.empty:Mp T)) (ziU z f m left):=by
 refine BSim.map (fun k=>?_) (fun k=>?_) ?_
 · by_cases h:k∈left
   · simp [h,Mp.empty]
   · cases hk:m.get k with
     | none=>simp [Mp.empty]
     | some x=>exact absurd ((hl.2.2 k).1 (by rw [hk];rfl)) h
 · by_cases h:k∈left
   · simp [h,Mp.empty]
   · cases hk:m.get k with
     | none=>simp [Mp.empty]
     | some x=>exact absurd ((hl.2.2 k).1 (by rw [hk];rfl)) h
 · simp [Mp.empty,hl.2.1]
theorem BSim.zrg {z:Value}:BSim (ziU z f m []) (mapL z f m):=BSim.map (fun k=>by simp) (fun k=>by simp) (by simp)
theorem BSim.zqs {z:Value} {left left':List Int} {k:Int} (hp:left.Perm (k::left')) (hnd:left.Nodup) (hk:(m.get k).isSome=true) (hlen:left.length≤m.card) :
 BSim (.map z (fun j=>decide (j=k) || ((m.get j).isSome && !decide (j∈left))) (fun j=>bif decide (j=k) then f ((m.get k).getD default) else bif decide (j∈left) then f default else f ((m.get j).getD default)) (bif ((m.get k).isSome && !decide (k∈left)) then m.card - left.length else m.card - left.length+1)) (ziU z f m left'):=by
 have hkl:k∈left:=hp.mem_iff.2 (List.mem_cons_self ..)
 have hnk:k ∉ left':=(List.nodup_cons.1 (hp.nodup_iff.1 hnd)).1
 have hj:∀ j,j≠k→(j∈left↔j∈left'):=fun j hne=>by rw [hp.mem_iff];simp [hne]
 refine BSim.map (fun j=>?_) (fun j=>?_) ?_
 · by_cases e:j=k
   · subst e;simp [hnk,hk]
   · simp [e,hj j e]
 · by_cases e:j=k
   · subst e;simp [hnk]
   · simp [e,hj j e]
 · have:=hp.length_eq
   simp at this
   simp [hkl,this]
   omega
end
def encN {T:Type} [Inhabited T] (sz:Nat) (f:T→List AV) (x:List T):List AV:=[.ns x.isEmpty (roL sz f x)]
section
variable {T:Type} [Inhabited T] {f:T→List AV} {sz:Nat}
theorem Sim.nsOf {x:List T} (hx:x.isEmpty=false):Sim (roL sz f x) (.ns x.isEmpty (roL sz f x)):=by
 intro h ρ v H
 refine .ns _ _ _ _ H ⟨fun e=>(by rw [hx] at e;cases e),fun ⟨n,cap,e⟩=>?_⟩
 subst e
 unfold roL at H
 cases H with
 | ro _ _ _ _ a cap hnil=>
  have:=List.eq_nil_of_length_eq_zero (hnil rfl)
  subst this;cases hx
theorem Sim.nsNil {e:Nat→List AV}:Sim .nilS (.ns true (.ro sz 0 e)):=by
 intro h ρ v H
 refine .ns _ _ _ _ (Sim.nil sz e h ρ v H) ⟨fun _=>?_,fun _=>rfl⟩
 cases H
 exact ⟨0,0,rfl⟩
theorem Sim.ofNs {b:Bool} {a:AV}:Sim (.ns b a) a:=by
 intro h ρ v H
 cases H with
 | ns _ _ _ _ hv hn=>exact hv
theorem Sim.roN {l:List (List T)}:Sim (roL 1 (encN sz f) l) (roL 1 (fun x=>[roL sz f x]) l):=by
 intro h ρ v H
 unfold roL at H
 cases H with
 | ro _ _ _ _ a cap hnil hcap hsz hs h1 hc=>
  refine .ro _ _ _ _ _ _ hnil hcap (fun i hi=>rfl) hs h1 (fun i j c v hi hj hv=>?_)
  match j,hj with
  | 0,hj=>
   simp only [List.getElem?_cons_zero,Option.some.injEq] at hj
   subst hj
   exact Sim.ofNs h ρ0 v (hc i 0 _ v hi rfl hv)
  | j+1,hj=>simp at hj
theorem BSim.madeN {ty n:Nat}:BSim (.buf ty 1 n (fun _=>[.nilS])) (bufL ty 1 (encN sz f) (List.replicate n ([]:List T))):=by
 have e1:bufL ty 1 (encN sz f) (List.replicate n ([]:List T)) = .buf ty 1 n (fun _=>encN sz f []):=by
  unfold bufL
  have:(fun i=>encN sz f ((List.replicate n ([]:List T)).getD i default))=fun _=>encN sz f []:=by
   funext i
   by_cases hi:i<n
   · simp [List.getD_eq_getElem?_getD,hi]
   · simp [List.getD_eq_getElem?_getD,hi];rfl
  rw [this,List.length_replicate]
 rw [e1]
 intro h ρ id w B
 obtain ⟨v,xs,q1,q2,q3,q4,q5⟩:=B
 refine ⟨v,xs,q1,q2,fun i hi=>rfl,q4,fun i j c x hi hc hx=>?_⟩
 match j,hc with
 | 0,hc=>
  simp only [encN,List.getElem?_cons_zero,Option.some.injEq] at hc
  subst hc
  exact Sim.nsNil h ρ0 x (q5 i 0 _ x hi rfl hx)
 | j+1,hc=>simp [encN] at hc
end
end Go.Av
end
/- The bridge: from what an argument reads as (a row's data) to the abstract value that it is; from a contract to a row's statement that a law returns true and leaves its arguments as they were. -/
section
set_option linter.all false
namespace Go.Av
open Go.RowKit Go.WideShapes Go.ChangeShapes
def Wt {H:Type} (P:Program) (t:TypeId) (d:DataW H):Prop:=∀ q∈d.weights P t,q≤reachBytes
theorem zog {H:Type} {P:Program} {e:TypeId}:∀ {ds:List (DataW H)} {d:DataW H},d∈ds→∀ q∈d.weights P e,q∈DataW.weightsAll P e ds
 | x::ds,d,h,q,hq=>by
  simp only [DataW.weightsAll,List.mem_append]
  rcases List.mem_cons.1 h with rfl|h
  · exact .inl hq
  · exact .inr (zog h q hq)
theorem zof {H:Type} {P:Program}:∀ {ts us:List TypeId} {ds gs:List (DataW H)},∀ q∈DataW.weightsEach P ts ds,q∈DataW.weightsEach P (ts++us) (ds++gs)
 | [],us,ds,gs,q,h=>by cases ds <;> simp [DataW.weightsEach] at h
 | t::ts,us,[],gs,q,h=>by simp [DataW.weightsEach] at h
 | t::ts,us,d::ds,gs,q,h=>by
  simp only [DataW.weightsEach,List.cons_append,List.mem_append] at h ⊢
  rcases h with h|h
  · exact .inl h
  · exact .inr (zof q h)
structure Opn (P:Program) (t:TypeId) (sz:Nat) {X:Type} (e:X→List AV) (ok:X→Prop):Prop where
 len:∀ x,(e x).length=sz
 cells:P.cellsOf t=sz
 read:∀ (H:Type) (enc:TypeId×Value→H) (W:World) (n:Nat) (cs:List Value) (r:DataW H×List MemPlace),DataW.trod enc P W 0 (fun _=>true) true n t cs=some r→Wt P t r.1 →
  ∃ x,RelL (fun b=>W.heap[b]?) ρ0 (e x) cs∧ok x∧∀ v∈cs,v.oneCell'=true
theorem Opn.int {P:Program} {t:TypeId} (ht:P.underlying t=some (.int .i64)) (hc:P.cellsOf t=1):Opn P t 1 (fun x:Int=>[.int .i64 x]) inI:=
 ⟨fun _=>rfl,hc,fun H enc W n cs r h _=>by
  obtain ⟨x,rfl,rfl,hw⟩:=DataW.trod_int ht h
  refine ⟨x,RelL.cons (.int _ _ _) (RelL.nil _ _),?_,fun v hv=>?_⟩
  · have:=bounds_i64 hw
    exact this
  · simp at hv;subst hv;rfl⟩
structure OpnF (P:Program) (fs:List (Nat×TypeId)) (off sz:Nat) {X:Type} (e:X→List AV) (ok:X→Prop):Prop where
 len:∀ x,(e x).length=sz
 read:∀ (H:Type) (enc:TypeId×Value→H) (W:World) (n:Nat) (cs:List Value),cs.length=off+sz →
  (∀ f∈fs,∃ r,DataW.trod enc P W 0 (fun _=>true) true n f.2 ((cs.drop f.1).take (P.cellsOf f.2))=some r∧Wt P f.2 r.1) →
  ∃ x,RelL (fun b=>W.heap[b]?) ρ0 (e x) (cs.drop off)∧ok x∧∀ v∈cs.drop off,v.oneCell'=true
theorem OpnF.nil {P:Program} {off:Nat}:OpnF P [] off 0 (fun _:Unit=>[]) (fun _=>True):=
 ⟨fun _=>rfl,fun H enc W n cs hl _=>⟨(),by rw [List.drop_eq_nil_of_le (by omega)];exact RelL.nil _ _,trivial,by rw [List.drop_eq_nil_of_le (by omega)];simp⟩⟩
theorem OpnF.cons {P:Program} {t:TypeId} {fs:List (Nat×TypeId)} {off s sz:Nat} {X Y:Type} {e:X→List AV} {ok:X→Prop} {e':Y→List AV} {ok':Y→Prop}
 (h:Opn P t s e ok) (h':OpnF P fs (off+s) sz e' ok'):OpnF P ((off,t)::fs) off (s+sz) (fun x:X×Y=>e x.1++e' x.2) (fun x=>ok x.1∧ok' x.2):=
 ⟨fun x=>by rw [List.length_append,h.len,h'.len],fun H enc W n cs hl hr=>by
  obtain ⟨r,hr1,hr2⟩:=hr (off,t) (List.mem_cons_self ..)
  obtain ⟨x,h1,h2,h3⟩:=h.read H enc W n _ r hr1 hr2
  obtain ⟨y,k1,k2,k3⟩:=h'.read H enc W n cs (by omega) (fun f hf=>hr f (List.mem_cons_of_mem _ hf))
  have e1:cs.drop off=(cs.drop off).take s++cs.drop (off+s):=by
   rw [← List.drop_drop,List.take_append_drop]
  rw [h.cells] at h1 h3
  refine ⟨(x,y),?_,⟨h2,k2⟩,fun v hv=>?_⟩
  · rw [e1];exact RelL.append h1 k1
  · rw [e1,List.mem_append] at hv
    exact hv.elim (h3 v) (k3 v)⟩
theorem Opn.struct {P:Program} {t:TypeId} {fs:Array Field} {sz:Nat} {X Y:Type} {e:X→List AV} {ok:X→Prop} (ht:P.underlying t=some (.struct fs)) (hc:P.cellsOf t=sz)
 (h:OpnF P (fs.toList.map fun f=>(f.offset,f.type)) 0 sz e ok) (f:X→Y) {e':Y→List AV} {ok':Y→Prop}
 (hl:∀ y,(e' y).length=sz) (he:∀ x,e' (f x)=e x) (ho:∀ x,ok x→ok' (f x)):Opn P t sz e' ok':=
 ⟨hl,hc,fun H enc W n cs r hr hz=>by
  obtain ⟨xs,m,rfl,rfl,hlen,hx,hi⟩:=DataW.trod_struct ht hr
  obtain ⟨x,h1,h2,h3⟩:=h.read H enc W m cs (by rw [hlen,hc];omega) (fun g hg=>by
   obtain ⟨f0,hf0,rfl⟩:=List.mem_map.1 hg
   obtain ⟨i,hi1,hi2⟩:=List.getElem_of_mem hf0
   have hh:=hi i f0 (by rw [← hi2];simp)
   have hxi:i<xs.length:=by rw [hx];simpa using hi1
   refine ⟨xs[i]'hxi,?_,fun q hq=>hz q ?_⟩
   · rw [hh,List.getElem?_eq_getElem]
   · simp only [DataW.weights,ht]
     exact DataW.weights_mem_each (j:=i) (t:=f0.type) (d:=(xs[i]'hxi).1) (by rw [List.getElem?_map,List.getElem?_eq_getElem hi1,hi2];rfl) (by rw [List.getElem?_map,List.getElem?_eq_getElem hxi];rfl) q hq)
  rw [List.drop_zero] at h1 h3
  exact ⟨f x,by rw [he];exact h1,ho x h2,h3⟩⟩
def arrF (s:Nat) (t:TypeId) (off:Nat):Nat→List (Nat×TypeId)
 | 0=>[]
 | n+1=>(off,t)::arrF s t (off+s) n
theorem znl {s:Nat} {t:TypeId}:∀ {n off:Nat} {f:Nat×TypeId},f∈arrF s t off n→∃ i,i<n∧f=(off+i * s,t)
 | 0,_,_,h=>by cases h
 | n+1,off,f,h=>by
  rcases List.mem_cons.1 h with rfl|h
  · exact ⟨0,by omega,by simp⟩
  · obtain ⟨i,hi,rfl⟩:=znl h
    exact ⟨i+1,by omega,by rw [Nat.add_mul];simp;omega⟩
theorem Opn.array {P:Program} {t u:TypeId} {n s sz:Nat} {X Y:Type} {e:X→List AV} {ok:X→Prop} (ht:P.underlying t=some (.array n u)) (hc:P.cellsOf t=sz) (hu:P.cellsOf u=s)
 (h:OpnF P (arrF s u 0 n) 0 sz e ok) (f:X→Y) {e':Y→List AV} {ok':Y→Prop}
 (hl:∀ y,(e' y).length=sz) (he:∀ x,e' (f x)=e x) (ho:∀ x,ok x→ok' (f x)):Opn P t sz e' ok':=
 ⟨hl,hc,fun H enc W m cs r hr hz=>by
  obtain ⟨xs,m,rfl,rfl,hlen,hx,hi⟩:=DataW.trod_array ht hr
  obtain ⟨x,h1,h2,h3⟩:=h.read H enc W m cs (by rw [hlen,hc];omega) (fun g hg=>by
   obtain ⟨i,hi1,rfl⟩:=znl hg
   have hh:=hi i hi1
   have hxi:i<xs.length:=by rw [hx];exact hi1
   refine ⟨xs[i]'hxi,?_,fun q hq=>hz q ?_⟩
   · rw [hu] at hh ⊢
     simp only [Nat.zero_add]
     rw [hh,List.getElem?_eq_getElem]
   · simp only [DataW.weights,ht]
     exact zog (List.mem_map.2 ⟨_,List.getElem_mem hxi,rfl⟩) q hq)
  rw [List.drop_zero] at h1 h3
  exact ⟨f x,by rw [he];exact h1,ho x h2,h3⟩⟩
theorem zjD {X:Type} [Inhabited X] {p:Nat→X→Prop}:∀ (n:Nat),(∀ i,i<n→∃ x,p i x)→∃ l:List X,l.length=n∧∀ i,i<n→p i (l.getD i default)
 | 0,_=>⟨[],rfl,fun i hi=>by omega⟩
 | n+1,h=>by
  obtain ⟨l,h1,h2⟩:=zjD n (fun i hi=>h i (by omega))
  obtain ⟨x,hx⟩:=h n (by omega)
  refine ⟨l++[x],by simp [h1],fun i hi=>?_⟩
  by_cases hn:i<n
  · have:(l++[x]).getD i default=l.getD i default:=by
     simp [List.getD_eq_getElem?_getD,List.getElem?_append_left (h1▸hn)]
    rw [this];exact h2 i hn
  · have hi':i=n:=by omega
    subst hi'
    have:(l++[x]).getD i default=x:=by
     simp [List.getD_eq_getElem?_getD,List.getElem?_append_right (Nat.le_of_eq h1),h1]
    rw [this];exact hx
theorem zob {w:World} {a:Addr} {n:Nat} {cs:List Value} (h:w.cells? 0 a n=some cs):cs.length=n∧∀ j,j<n→w.cell? (a.add j)=cs[j]? := by
 unfold World.cells? at h
 rw [if_pos (Nat.zero_le _)] at h
 exact ⟨by rw [mapM_some_length h];simp,fun j hj=>mapM_some_get h j j (by simp [hj])⟩
theorem Opn.slice {P:Program} {t u:TypeId} {s:Nat} {X:Type} [Inhabited X] {e:X→List AV} {ok:X→Prop} {k:Nat} (ht:P.underlying t=some (.slice u)) (hc:P.cellsOf t=1) (h:Opn P u s e ok) (hs:0<s) (hb:1≤k∧k≤P.bytesOf u) :
 Opn P t 1 (fun l:List X=>[roL s e l]) (fun l=>l.length * k≤140737488351232∧∀ x∈l,ok x):=
 ⟨fun _=>rfl,hc,fun H enc W m cs r hr hz=>by
  rcases DataW.trod_slice ht hr with ⟨rfl,_⟩|⟨a,len,cap,elems,rest,n,rfl,rfl,rfl,-,hlc,hcm,hel,hi,-,-⟩
  · refine ⟨[],RelL.cons (.ro _ _ _ _ _ _ (fun _=>rfl) ⟨Nat.le_refl _,Nat.zero_le _⟩ (fun i hi=>by cases hi) (fun i j hi=>by cases hi) (fun k v hk=>by simp at hk) (fun i j c v hi=>by cases hi)) (RelL.nil _ _),⟨by simp,by simp⟩,fun v hv=>?_⟩
    simp at hv;subst hv;rfl
  · have hz:∀ q∈DataW.weights P t (.slice (elems.map (·.1)) (rest.map (·.1)):DataW H),q≤reachBytes:=hz
    have ew:DataW.weights P t (.slice (elems.map (·.1)) (rest.map (·.1)):DataW H)=((elems.map (·.1)).length+(rest.map (·.1)).length) * P.bytesOf u::(DataW.weightsAll P u (elems.map (·.1))++DataW.weightsAll P u (rest.map (·.1))):=by simp only [DataW.weights,ht]
    rw [ew] at hz
    obtain ⟨l,hl,hp⟩:=zjD (X:=X) (p:=fun i x=>∃ ys:List Value,W.cells? 0 (a.add (i * s)) s=some ys∧RelL (fun b=>W.heap[b]?) ρ0 (e x) ys∧ok x∧∀ v∈ys,v.oneCell'=true) len (fun i hi'=>by
     have:=hi i hi'
     rw [h.cells,List.getElem?_eq_getElem (by omega)] at this
     obtain ⟨ys,h1,h2⟩:=Option.bind_eq_some_iff.1 this
     obtain ⟨x,k1,k2,k3⟩:=h.read H enc W n ys _ h2 (fun q hq=>hz q (List.mem_cons_of_mem _ (List.mem_append_left _ (zog (List.mem_map.2 ⟨_,List.getElem_mem _,rfl⟩) q hq))))
     exact ⟨x,ys,h1,k1,k2,k3⟩)
    have hbig0:len * k≤140737488351232:=by
     have h1:=hz _ List.mem_cons_self
     rw [List.length_map,List.length_map] at h1
     have h2:reachBytes=140737488351232:=rfl
     have h3:len * k≤(elems.length+rest.length) * P.bytesOf u:=Nat.mul_le_mul (by omega) hb.2
     omega
    have hbig:len≤140737488351232:=Nat.le_trans (Nat.le_mul_of_pos_right _ hb.1) hbig0
    subst hl
    have cell:∀ i j,i<l.length→j<s→∃ ys:List Value,ys.length=s∧RelL (fun b=>W.heap[b]?) ρ0 (e (l.getD i default)) ys∧(∀ v∈ys,v.oneCell'=true)∧hcell (fun b=>W.heap[b]?) (some a) (i * s+j)=ys[j]? := by
     intro i j hi' hj
     obtain ⟨ys,h1,h2,_,h4⟩:=hp i hi'
     obtain ⟨k1,k2⟩:=zob h1
     refine ⟨ys,k1,h2,h4,?_⟩
     rw [← k2 j hj,Addr.add_add]
     rfl
    refine ⟨l,RelL.cons (.ro _ _ _ _ _ _ (fun h=>by cases h) ⟨hlc,by omega⟩ (fun i _=>h.len _) (fun i j hi' hj=>?_) (fun k v hk hv=>?_) (fun i j c v hi' hcj hv=>?_)) (RelL.nil _ _),⟨hbig0,fun x hx=>?_⟩,fun v hv=>?_⟩
    · obtain ⟨ys,k1,_,_,k4⟩:=cell i j hi' hj
      rw [k4,List.getElem?_eq_getElem (by omega)];rfl
    · obtain ⟨ys,k1,_,k3,k4⟩:=cell (k / s) (k % s) (by rw [Nat.div_lt_iff_lt_mul hs];exact hk) (Nat.mod_lt _ hs)
      rw [Nat.mul_comm,Nat.div_add_mod] at k4
      rw [k4] at hv
      exact k3 v (List.mem_of_getElem? hv)
    · have hj:j<s:=by
       have:=(List.getElem?_eq_some_iff.1 hcj).1
       rwa [h.len] at this
      obtain ⟨ys,k1,k2,_,k4⟩:=cell i j hi' hj
      rw [k4] at hv
      exact k2.2 j c v hcj hv
    · obtain ⟨i,hi1,rfl⟩:=List.getElem_of_mem hx
      obtain ⟨_,_,_,h3,_⟩:=hp i (by omega)
      rw [List.getD_eq_getElem?_getD,List.getElem?_eq_getElem hi1] at h3
      exact h3
    · simp at hv;subst hv;rfl⟩
def OpnT (P:Program) (t:TypeId) {X:Type} (e:X→AV) (ok:X→Prop):Prop:=
 ∀ (H:Type) (enc:TypeId×Value→H) (W:World) (base:Nat) (v:Value) (d:DataW H) (ps:List MemPlace),Value.okWide P W .any base t v→DataW.Trod enc P W 0 (fun _=>true) true t v d ps→Wt P t d →
  ∃ x,Rel (fun b=>W.heap[b]?) ρ0 (e x) v∧ok x
theorem OpnT.struct {P:Program} {t:TypeId} {fs:Array Field} {sz:Nat} {X:Type} {e:X→List AV} {ok:X→Prop} (ht:P.underlying t=some (.struct fs)) (h:Opn P t sz e ok):OpnT P t (fun x=>.agg (e x)) ok:=by
 intro H enc W base v d ps hv hd hz
 obtain ⟨cs,rfl,_⟩:=okWide_struct ht hv
 obtain ⟨n,hn⟩:=hd
 obtain ⟨x,h1,h2,_⟩:=h.read H enc W n _ _ hn hz
 refine ⟨x,?_,h2⟩
 have:(Value.agg cs) = .agg (Value.agg cs).cells.toList.toArray:=by simp [Value.cells]
 rw [this]
 exact .agg _ _ _ h1.1 h1.2
theorem OpnT.array {P:Program} {t u:TypeId} {n sz:Nat} {X:Type} {e:X→List AV} {ok:X→Prop} (ht:P.underlying t=some (.array n u)) (h:Opn P t sz e ok):OpnT P t (fun x=>.agg (e x)) ok:=by
 intro H enc W base v d ps hv hd hz
 obtain ⟨cs,rfl⟩:∃ cs,v = .agg cs:=by
  simp only [Value.okWide,ht] at hv
  obtain ⟨cs,h1,_⟩:=hv
  exact ⟨cs,h1⟩
 obtain ⟨n,hn⟩:=hd
 obtain ⟨x,h1,h2,_⟩:=h.read H enc W n _ _ hn hz
 refine ⟨x,?_,h2⟩
 have:(Value.agg cs) = .agg (Value.agg cs).cells.toList.toArray:=by simp [Value.cells]
 rw [this]
 exact .agg _ _ _ h1.1 h1.2
theorem OpnT.int {P:Program} {t:TypeId} (ht:P.underlying t=some (.int .i64)):OpnT P t (fun x:Int=>.int .i64 x) inI:=by
 intro H enc W base v d ps hv hd hz
 obtain ⟨n,rfl⟩:=okWide_int ht hv
 obtain ⟨m,hn⟩:=hd
 obtain ⟨x,h1,_,hw⟩:=DataW.trod_int ht hn
 simp only [Value.cells,List.cons.injEq,Value.int.injEq,and_true,true_and] at h1
 subst h1
 exact ⟨n,.int _ _ _,bounds_i64 hw⟩
theorem OpnT.slice {P:Program} {t u:TypeId} {s:Nat} {X:Type} [Inhabited X] {e:X→List AV} {ok:X→Prop} {k:Nat} (ht:P.underlying t=some (.slice u)) (hc:P.cellsOf t=1) (h:Opn P u s e ok) (hs:0<s) (hb:1≤k∧k≤P.bytesOf u) :
 OpnT P t (fun l:List X=>roL s e l) (fun l=>l.length * k≤140737488351232∧∀ x∈l,ok x):=by
 intro H enc W base v d ps hv hd hz
 obtain ⟨a,len,cap,rfl⟩:=okWide_slice ht hv
 obtain ⟨n,hn⟩:=hd
 obtain ⟨x,h1,h2,_⟩:=(Opn.slice ht hc h hs hb).read H enc W n _ _ hn hz
 exact ⟨x,h1.2 0 _ _ (by simp) (by simp [Value.cells]),h2⟩
def OpnA (P:Program) (ts:List TypeId) {X:Type} (e:X→List AV) (ok:X→Prop):Prop:=
 ∀ (H:Type) (enc:TypeId×Value→H) (W:World) (base:Nat) (vs:List Value) (ds:List (DataW H)) (ps:List MemPlace),(∀ (j:Nat) t v,ts[j]? = some t→vs[j]? = some v→Value.okWide P W .any base t v) →
  DataW.TrodAll enc P W 0 (fun _=>true) true ts vs ds ps→(∀ q∈DataW.weightsEach P ts ds,q≤reachBytes)→ds.length=ts.length∧∃ x,RelL (fun b=>W.heap[b]?) ρ0 (e x) vs∧ok x
theorem OpnA.nil {P:Program}:OpnA P [] (fun _:Unit=>[]) (fun _=>True):=by
 intro H enc W base vs ds ps _ h _
 obtain ⟨rfl,rfl,_⟩:=trodAll_nil h
 exact ⟨rfl,(),RelL.nil _ _,trivial⟩
theorem OpnA.cons {P:Program} {t:TypeId} {ts:List TypeId} {X Y:Type} {e:X→AV} {ok:X→Prop} {e':Y→List AV} {ok':Y→Prop} (h:OpnT P t e ok) (h':OpnA P ts e' ok') :
 OpnA P (t::ts) (fun x:X×Y=>e x.1::e' x.2) (fun x=>ok x.1∧ok' x.2):=by
 intro H enc W base vs ds ps hv hA hz
 obtain ⟨v,vs',d,ds',p,q,rfl,rfl,rfl,h1,h2⟩:=trodAll_cons hA
 obtain ⟨x,k1,k2⟩:=h H enc W base v d p (hv 0 t v (by simp) (by simp)) h1 (fun q hq=>hz q (by simp only [DataW.weightsEach,List.mem_append];exact .inl hq))
 obtain ⟨hl,y,k3,k4⟩:=h' H enc W base vs' ds' q (fun j t' v' a b=>hv (j+1) t' v' (by simpa using a) (by simpa using b)) h2 (fun q hq=>hz q (by simp only [DataW.weightsEach,List.mem_append];exact .inr hq))
 exact ⟨by simp [hl],(x,y),RelL.cons k1 k3,k2,k4⟩
theorem znS {H:Type} {enc:TypeId×Value→H} {P:Program} {f:Func} {s:ChangeSpec} {apart fresh handsOn again:Bool} {W W':World} {args:Array Value} {v:Value} {ds gs:List (DataW H)} {before pa pv:List MemPlace}
 (hW:DataW.Whole enc P f.params.toList s.vars apart W args.toList ds gs before)
 (hres:∀ (b:Nat) (sp:Nat→Bool) (hd:Bool),DataW.TrodAll enc P W' b sp hd f.resultTypes.toList (v.resultList f.resultTypes.size) (s.fn H (ds++gs)).results [])
 (hargs:∀ sp:Nat→Bool,(∀ p∈before,sp p.block=true)→DataW.TrodAll enc P W' 0 sp true f.params.toList args.toList (s.fn H (ds++gs)).args pa)
 (hvars:∀ sp:Nat→Bool,(∀ p∈before,sp p.block=true)→DataW.TrodVars enc P W' sp s.vars (s.fn H (ds++gs)).vars pv)
 (hps:before=pa++pv) (hb:Below W.heap.size W W')
 (hok:∀ (j:Nat) (t:TypeId) (r:Value),f.resultTypes[j]? = some t→(v.resultList f.resultTypes.size)[j]? = some r→Value.okWide P W' .any 0 t r) :
 s.post enc P f apart fresh handsOn again W args v W':=by
 have hlt:∀ p∈before,p.block<W.heap.size:=fun p hp=>hW.lt p hp
 have hold:∀ p∈before,(fun b=>decide (b<W.heap.size)) p.block=true:=fun p hp=>by simpa using hlt p hp
 refine ⟨ds,gs,before,[],pa,pv,hW,hres _ _ _,hargs _ hold,hvars _ hold,World.keptBut_mono (fun p hp=>⟨hp,?_⟩) (hb.frame (· ∈ before)),fun _=>?_⟩
 · rw [hps,List.mem_append] at hp
   exact Or.inr hp
 · obtain ⟨_,_,_,_,_,hz,hn⟩:=hW
   refine ⟨hok,_,_,([]++pa)++pv,⟨[]++pa,pv,trodAll_append (hargs _ (fun _ _=>rfl)) (hres _ _ _),hvars _ (fun _ _=>rfl),rfl,?_,?_⟩,?_⟩
   · intro b off hp
     have hin:MemPlace.cell b off∈before:=by rw [hps];simpa using hp
     rw [hb.frozen (hlt _ hin)]
     exact hz b off hin
   · intro ha
     have:=hn ha
     rw [hps] at this
     simpa using this
   · intro p hp _
     rw [hps]
     simpa using hp
theorem zhW {H:Type} {enc:TypeId×Value→H} {P:Program} {w w':World} {base:Nat} {spare:Nat→Bool} {held:Bool}:∀ {ts:List TypeId} {vs:List Value} {ds:List (DataW H)} {ps:List MemPlace},
 DataW.TrodAll enc P w base spare held ts vs ds ps→(∀ p∈ps,w.sameAt w' p)→DataW.TrodAll enc P w' base spare held ts vs ds ps
 | [],[],[],_,h,_=>h
 | _::_,_::_,_::_,_,⟨p,q,⟨n,h1⟩,h2,e⟩,hs=>⟨p,q,⟨n,DataW.trod_carry n _ _ _ h1 (fun x hx=>hs x (by rw [e];exact List.mem_append_left _ hx))⟩,
  zhW h2 (fun x hx=>hs x (by rw [e];exact List.mem_append_right _ hx)),e⟩
theorem zoW {P:Program} {f:FuncId} {fn:Func} {s:ChangeSpec} {apart fresh handsOn again:Bool} {X:Type} {e:X→List AV} {ok:X→Prop} {tb:TypeId}
 (hkids:Kids P (· < P.types.size)) (hfull:∀ t e,t<P.types.size→P.underlying t=some (.slice e)→0<P.cellsOf e) (hp:fn.params.toList.all (· < P.types.size)=true)
 (hA:OpnA P fn.params.toList e ok) (hs:s.vars=[]) (hfn:∀ (H:Type) (ds:List (DataW H)),ds.length=fn.params.toList.length→s.fn H ds=⟨[.lit (.bool true)],ds,[]⟩)
 (hr:fn.resultTypes = #[tb]) (htb:P.underlying tb=some .bool) (hC:∀ x,ok x→Ctr P f (e x) (.bool true))
 (H:Type) (enc:TypeId×Value→H) (W:World) (base:Nat) (args:Array Value) (ds gs:List (DataW H)) (before:List MemPlace)
 (hval:∀ (j:Nat) t v,fn.params[j]? = some t→args[j]? = some v→Value.okWide P W .any base t v) (hW:DataW.Whole enc P fn.params.toList s.vars apart W args.toList ds gs before)
 (hbig:(DataW.weightsEach P (fn.params.toList++s.plain.varTypes P) (ds++gs)).all (· ≤ reachBytes)=true) :
 Calls P f args W fun e W'=>∃ v,e = .returned v∧s.post enc P fn apart fresh handsOn again W args v W':=by
 obtain ⟨p,q,hT,hV,hps,hz,hn⟩:=id hW
 have hV':=hV
 rw [hs] at hV'
 obtain ⟨rfl,rfl⟩:=trodVars_none hV'
 obtain ⟨hl,x,hx,hok⟩:=hA H enc W base args.toList ds p (fun j t v a b=>hval j t v (by simpa using a) (by simpa using b)) hT (fun q hq=>by have:=List.all_eq_true.1 hbig q (zof q hq);simpa using this)
 have hc:=((hC x hok).2 (fun b=>W.heap[b]?) W args.toList hx (fun b o h=>h)).calls (fun k d hd=>by cases hd)
 rw [Array.toArray_toList] at hc
 refine hc.mono fun en W' hpost=>?_
 cases en with
 | panicked c=>exact hpost.elim
 | outgrown=>exact hpost.elim
 | returned v=>
  obtain ⟨h',ρ',hb,_,_,hv,_⟩:=hpost
  cases hv
  refine ⟨_,rfl,znS (pa:=p) (pv:=[]) hW (fun b sp hd=>?_) (fun sp hsp=>?_) (fun sp hsp=>?_) hps hb (fun j t r h1 h2=>?_)⟩
  · rw [List.append_nil,hfn H ds hl,hr]
    exact ⟨[],[],shut_bool htb true,rfl,rfl⟩
  · rw [List.append_nil,hfn H ds hl]
    have hlt:∀ y∈p,y.block<W.heap.size:=fun y hy=>hW.lt y (by rw [hps];exact List.mem_append_left _ hy)
    exact zhW (DataW.TrodAll.respare hkids hfull (fun t ht=>by simpa using List.all_eq_true.1 hp t ht) hT (fun y hy=>hsp y (by rw [hps];exact List.mem_append_left _ hy))) (fun y hy=>hb.same (hlt y hy))
  · rw [List.append_nil,hfn H ds hl,hs]
    rfl
  · rw [hr] at h1 h2
    have hj:j=0:=by
     have:=(Array.getElem?_eq_some_iff.1 h1).1
     simpa using this
    subst hj
    simp [Value.resultList] at h1 h2
    subst h1 h2
    simp [Value.okWide,htb,Cell.okWide,Cell.ok]
end Go.Av
end
/- Printed by gen.py. -/
section
set_option linter.all false
set_option linter.unusedVariables false
namespace Go.Sp
open Go.Av
structure Range where
 Lo:Int
 Hi:Int
 deriving Inhabited,DecidableEq
structure Batch where
 Id:Int
 Life:Range
 deriving Inhabited,DecidableEq
structure Mantle where
 Source:Int
 Lamp:Int
 Batch:Int
 Night:Int
 Known:Int
 Until:Int
 deriving Inhabited,DecidableEq
structure Burn where
 Source:Int
 Lamp:Int
 Night:Int
 Minutes:Range
 Known:Int
 Until:Int
 deriving Inhabited,DecidableEq
structure Look where
 Source:Int
 Lamp:Int
 Night:Int
 Bad:Bool
 Known:Int
 Until:Int
 deriving Inhabited,DecidableEq
structure Wear where
 Batches:(List Batch)
 Mantles:(List Mantle)
 Burns:(List Burn)
 Looks:(List Look)
 deriving Inhabited,DecidableEq
structure gasolierlaw06_One where
 Batch:Batch
 Mantle:Mantle
 Burn:Burn
 Look:Look
 deriving Inhabited,DecidableEq
structure gasolierref06_Raw where
 Batches:(List (Arr2 Int))
 Mantles:(List (Arr4 Int))
 Burns:(List (Arr5 Int))
 Looks:(List (Arr4 Int))
 deriving Inhabited,DecidableEq
structure Lives where
 Lives:(List Int)
 Minutes:(List Int)
 deriving Inhabited,DecidableEq
structure gasolierref06_When where
 Lamp:Int
 Night:Int
 Known:Int
 deriving Inhabited,DecidableEq
structure mantle_sight where
 night:Int
 bad:Bool
 deriving Inhabited,DecidableEq
structure mantle_coat where
 w:Wear
 burns:(List Int)
 sights:(List mantle_sight)
 deriving Inhabited,DecidableEq
structure mantle_closet where
 w:Wear
 known:Int
 coats:(Mp mantle_coat)
 lives:(List Range)
 deriving Inhabited
structure mantle_lot where
 closet:mantle_closet
 lamps:(List Int)
 mantles:(List Int)
 night:Int
 deriving Inhabited
structure gasolierref06_Told where
 Looks:(List Look)
 Known:Int
 deriving Inhabited,DecidableEq
structure gasolierref06_Seen where
 Good:Int
 Bad:Int
 deriving Inhabited,DecidableEq
def zai  : Wear:=
 (⟨([(⟨1,(⟨1000,2000⟩:Range)⟩:Batch),(⟨2,(⟨100,3000⟩:Range)⟩:Batch)]:List Batch),([(⟨1,10,1,0,0,0⟩:Mantle),(⟨2,11,1,0,0,0⟩:Mantle),(⟨3,12,2,0,0,0⟩:Mantle),(⟨4,10,1,9,0,0⟩:Mantle)]:List Mantle),([(⟨11,10,1,(⟨800,900⟩:Range),0,0⟩:Burn),(⟨12,10,2,(⟨500,700⟩:Range),0,0⟩:Burn),(⟨13,11,1,(⟨700,1200⟩:Range),0,0⟩:Burn),(⟨14,12,1,(⟨50,90⟩:Range),0,0⟩:Burn)]:List Burn),([(⟨21,10,1,false,0,0⟩:Look),(⟨22,10,2,true,5,0⟩:Look)]:List Look)⟩:Wear)
def zcl (p0:(List Batch)) (p1:Int) (p2:Batch→Option Int) (p3:Batch→Option Int):Option Bool:=
 (zaq (fun i1 (s1:Unit) k1=>zam (p2 (p0.getD i1 default)) fun y3=>must ((((!(!decide (y3=0))) && (decide (0<(i1:Int))))=true→(inI ((i1:Int) - 1)))) <| must ((((!(!decide (y3=0))) && (decide (0<(i1:Int))))=true→(0≤(((i1:Int) - 1):Int)∧(((i1:Int) - 1):Int)<((p0.length:Nat):Int)))) <| zam ((bif ((!(!decide (y3=0))) && (decide (0<(i1:Int)))) then p3 (p0.getD (((i1:Int) - 1)).toNat default) else some default)) fun y7=>zam ((bif ((!(!decide (y3=0))) && (decide (0<(i1:Int)))) then p3 (p0.getD i1 default) else some default)) fun y9=>(bif ((!decide (y3=0)) || ((decide (0<(i1:Int))) && (decide (y9≤y7)))) then some false else k1 ())) (fun (s1:Unit)=>some (decide (((p0.length:Nat):Int)≤p1))) p0.length 0 ())
def zaC (p0:Int) (p1:Int) (p2:Int):Bool:=
 ((decide (p1≤p0)) && (decide (p0≤p2)))
def zbH (p0:Range) (p1:Int):Bool:=
 (((decide (0≤p0.Lo)) && (decide (p0.Lo≤p0.Hi))) && (decide (p0.Hi≤p1)))
def zaX (p0:Batch):Int:=
 (bif ((!(zaC p0.Id 1 99)) || (!(zbH p0.Life 1000000))) then 60 else 0)
def zcL (p0:Batch):Int:=
 p0.Id
def zcd (p0:(List Mantle)) (p1:Int) (p2:Mantle→Option Int) (p3:Mantle→Option Int):Option Bool:=
 (zaq (fun i1 (s1:Unit) k1=>zam (p2 (p0.getD i1 default)) fun y3=>must ((((!(!decide (y3=0))) && (decide (0<(i1:Int))))=true→(inI ((i1:Int) - 1)))) <| must ((((!(!decide (y3=0))) && (decide (0<(i1:Int))))=true→(0≤(((i1:Int) - 1):Int)∧(((i1:Int) - 1):Int)<((p0.length:Nat):Int)))) <| zam ((bif ((!(!decide (y3=0))) && (decide (0<(i1:Int)))) then p3 (p0.getD (((i1:Int) - 1)).toNat default) else some default)) fun y7=>zam ((bif ((!(!decide (y3=0))) && (decide (0<(i1:Int)))) then p3 (p0.getD i1 default) else some default)) fun y9=>(bif ((!decide (y3=0)) || ((decide (0<(i1:Int))) && (decide (y9≤y7)))) then some false else k1 ())) (fun (s1:Unit)=>some (decide (((p0.length:Nat):Int)≤p1))) p0.length 0 ())
def zaZ (p0:Int):Bool:=
 (zaC p0 1 99999)
def zaI (p0:Int):Bool:=
 (zaC p0 1 999)
def zaM (p0:Int):Bool:=
 (zaC p0 0 100000)
def za3 (p0:Int) (p1:Int) (p2:Int):Bool:=
 (((zaM p0) && (zaM p1)) && ((decide (p2=0)) || ((decide (p1<p2)) && (zaM p2))))
def za9 (p0:Mantle):Int:=
 (bif ((((!(zaZ p0.Source)) || (!(zaI p0.Lamp))) || (!(zaC p0.Batch 1 99))) || (!(za3 p0.Night p0.Known p0.Until))) then 61 else 0)
def zcK (p0:Mantle):Int:=
 p0.Source
def zcz (p0:(List Burn)) (p1:Int) (p2:Burn→Option Int) (p3:Burn→Option Int):Option Bool:=
 (zaq (fun i1 (s1:Unit) k1=>zam (p2 (p0.getD i1 default)) fun y3=>must ((((!(!decide (y3=0))) && (decide (0<(i1:Int))))=true→(inI ((i1:Int) - 1)))) <| must ((((!(!decide (y3=0))) && (decide (0<(i1:Int))))=true→(0≤(((i1:Int) - 1):Int)∧(((i1:Int) - 1):Int)<((p0.length:Nat):Int)))) <| zam ((bif ((!(!decide (y3=0))) && (decide (0<(i1:Int)))) then p3 (p0.getD (((i1:Int) - 1)).toNat default) else some default)) fun y7=>zam ((bif ((!(!decide (y3=0))) && (decide (0<(i1:Int)))) then p3 (p0.getD i1 default) else some default)) fun y9=>(bif ((!decide (y3=0)) || ((decide (0<(i1:Int))) && (decide (y9≤y7)))) then some false else k1 ())) (fun (s1:Unit)=>some (decide (((p0.length:Nat):Int)≤p1))) p0.length 0 ())
def zbu (p0:Burn):Int:=
 (bif ((((!(zaZ p0.Source)) || (!(zaI p0.Lamp))) || (!(zbH p0.Minutes 1440))) || (!(za3 p0.Night p0.Known p0.Until))) then 62 else 0)
def zcJ (p0:Burn):Int:=
 p0.Source
def zdz (p0:(List Look)) (p1:Int) (p2:Look→Option Int) (p3:Look→Option Int):Option Bool:=
 (zaq (fun i1 (s1:Unit) k1=>zam (p2 (p0.getD i1 default)) fun y3=>must ((((!(!decide (y3=0))) && (decide (0<(i1:Int))))=true→(inI ((i1:Int) - 1)))) <| must ((((!(!decide (y3=0))) && (decide (0<(i1:Int))))=true→(0≤(((i1:Int) - 1):Int)∧(((i1:Int) - 1):Int)<((p0.length:Nat):Int)))) <| zam ((bif ((!(!decide (y3=0))) && (decide (0<(i1:Int)))) then p3 (p0.getD (((i1:Int) - 1)).toNat default) else some default)) fun y7=>zam ((bif ((!(!decide (y3=0))) && (decide (0<(i1:Int)))) then p3 (p0.getD i1 default) else some default)) fun y9=>(bif ((!decide (y3=0)) || ((decide (0<(i1:Int))) && (decide (y9≤y7)))) then some false else k1 ())) (fun (s1:Unit)=>some (decide (((p0.length:Nat):Int)≤p1))) p0.length 0 ())
def za4 (p0:Look):Int:=
 (bif (((!(zaZ p0.Source)) || (!(zaI p0.Lamp))) || (!(za3 p0.Night p0.Known p0.Until))) then 63 else 0)
def zdc (p0:Look):Int:=
 p0.Source
def zbX (p0:(List Mantle)) (p1:Mantle→Option Bool):Option Int:=
 (zaq (fun i1 (s1:Unit) k1=>zam (p1 (p0.getD i1 default)) fun y3=>(bif y3 then some (i1:Int) else k1 ())) (fun (s1:Unit)=>some (-1)) p0.length 0 ())
def zbx (p0:(List Mantle)) (p1:Mantle→Option Bool):Option Bool:=
 zam (zbX p0 p1) fun y1=>some (decide (0≤y1))
def zb9 (p0:(List Batch)) (p1:Batch→Option Bool):Option Int:=
 (zaq (fun i1 (s1:Unit) k1=>zam (p1 (p0.getD i1 default)) fun y3=>(bif y3 then some (i1:Int) else k1 ())) (fun (s1:Unit)=>some (-1)) p0.length 0 ())
def zcb (p0:Batch) (c0:Int):Bool:=
 (decide (p0.Id=c0))
def zb1 (p0:Wear) (p1:Int):Option Int:=
 zam (zb9 p0.Batches (fun x0=>some (zcb x0 p1))) fun y1=>some y1
def zcI (p0:Mantle) (c0:Wear):Option Bool:=
 zam (zb1 c0 p0.Batch) fun y1=>some (decide (y1<0))
def zce (p0:Wear):Option Int:=
 zam (zcl p0.Batches 8 (fun x0=>some (zaX x0)) (fun x0=>some (zcL x0))) fun y1=>zam (zcd p0.Mantles 60 (fun x0=>some (za9 x0)) (fun x0=>some (zcK x0))) fun y3=>zam (zcz p0.Burns 60 (fun x0=>some (zbu x0)) (fun x0=>some (zcJ x0))) fun y5=>zam ((bif (!(((!y1) || (!y3)) || (!y5))) then zdz p0.Looks 60 (fun x0=>some (za4 x0)) (fun x0=>some (zdc x0)) else some default)) fun y7=>zam ((bif (!((((!y1) || (!y3)) || (!y5)) || (!y7))) then zbx p0.Mantles (fun x0=>zcI x0 p0) else some default)) fun y9=>(bif (((((!y1) || (!y3)) || (!y5)) || (!y7)) || y9) then some 64 else some 0)
def zdf (p0:(List Int)) (p1:Int→Option Bool):Option Int:=
 (zaq (fun i1 (s1:Unit) k1=>zam (p1 (p0.getD i1 default)) fun y3=>(bif y3 then some (i1:Int) else k1 ())) (fun (s1:Unit)=>some (-1)) p0.length 0 ())
def zbk (p0:(List Int)) (p1:Int→Option Bool):Option Bool:=
 zam (zdf p0 p1) fun y1=>some (decide (0≤y1))
def zbm (p0:Int):Bool:=
 (!(zaM p0))
def zbZ (p0:Wear) (p1:(List Int)):Option Int:=
 zam (zce p0) fun y1=>(bif (!decide (y1=0)) then some y1 else zam (zbk p1 (fun x0=>some (zbm x0))) fun y4=>(bif y4 then some 6 else some 0))
def zap (p0:Int) (p1:Int) (p2:Int):Bool:=
 ((decide (p0≤p2)) && ((decide (p1=0)) || (decide (p2<p1))))
def zb0 (p0:Wear) (p1:Int) (p2:Int) (p3:Int):Option Int:=
 (zaq (fun i1 (s1:Int) k1=>must ((((((decide ((p0.Mantles.getD i1 default).Lamp=p1)) && (decide ((p0.Mantles.getD i1 default).Night≤p2))) && (zap ((p0.Mantles.getD i1 default).Known) ((p0.Mantles.getD i1 default).Until) p3)) && !(decide (s1<0)))=true→(0≤(s1:Int)∧(s1:Int)<((p0.Mantles.length:Nat):Int)))) <| (bif ((((decide ((p0.Mantles.getD i1 default).Lamp=p1)) && (decide ((p0.Mantles.getD i1 default).Night≤p2))) && (zap ((p0.Mantles.getD i1 default).Known) ((p0.Mantles.getD i1 default).Until) p3)) && ((decide (s1<0)) || (decide ((p0.Mantles.getD (s1).toNat default).Night≤(p0.Mantles.getD i1 default).Night)))) then k1 (i1:Int) else k1 s1)) (fun (s1:Int)=>some s1) p0.Mantles.length 0 (-1))
def zdd (p0:Wear) (p1:Int) (p2:Int) (p3:Int):Option (Int×Int):=
 zam (zce p0) fun y1=>(bif (!decide (y1=0)) then some (0,y1) else (bif (!(zaI p1)) then some (0,1) else zam (zbZ p0 ([p2,p3]:List Int)) fun y5=>(bif (!decide (y5=0)) then some (0,y5) else zam (zb0 p0 p1 p2 p3) fun y8=>(bif (decide (y8<0)) then some (0,66) else some (y8,0)))))
def zcY (p0:(List Burn)) (p1:Burn→Option Bool):Option Int:=
 (zaq (fun i1 (s1:Unit) k1=>zam (p1 (p0.getD i1 default)) fun y3=>(bif y3 then some (i1:Int) else k1 ())) (fun (s1:Unit)=>some (-1)) p0.length 0 ())
def zcp (p0:(List Burn)) (p1:Burn→Option Bool):Option Bool:=
 zam (zcY p0 p1) fun y1=>some (decide (0≤y1))
def zbi (p0:Burn) (c0:Burn) (c1:Int):Bool:=
 (((decide (p0.Lamp=c0.Lamp)) && (decide (p0.Night=c0.Night))) && (zap p0.Known p0.Until c1))
def zaN (fuel:Nat) (p0:(List Int)) (p1:Int) (p2:Int) (p3:Int→Int→Option Int):Option (List Int):=
 must (inI (p1+1)) <| (loopGo (fun (s2:Int×(List Int)) k2=>(bif (decide (s2.1<p2)) then (loopGo (fun (s4:Int×(List Int)) k4=>must (((decide (p1<s4.1))=true→(0≤(s4.1:Int)∧(s4.1:Int)<((s4.2.length:Nat):Int)))) <| must (((decide (p1<s4.1))=true→(inI (s4.1 - 1)))) <| must (((decide (p1<s4.1))=true→(0≤((s4.1 - 1):Int)∧((s4.1 - 1):Int)<((s4.2.length:Nat):Int)))) <| zam ((bif (decide (p1<s4.1)) then p3 (s4.2.getD (s4.1).toNat default) (s4.2.getD ((s4.1 - 1)).toNat default) else some default)) fun y8=>(bif ((decide (p1<s4.1)) && (decide (y8<0))) then must (inI (s4.1 - 1)) <| must (inI (s4.1 - 1)) <| must (0≤((s4.1 - 1):Int)∧((s4.1 - 1):Int)<((s4.2.length:Nat):Int)) <| must (0≤(s4.1:Int)∧(s4.1:Int)<((s4.2.length:Nat):Int)) <| must (0≤(s4.1:Int)∧(s4.1:Int)<((s4.2.length:Nat):Int)) <| must (0≤((s4.1 - 1):Int)∧((s4.1 - 1):Int)<(((s4.2.set (s4.1).toNat (s4.2.getD ((s4.1 - 1)).toNat default)).length:Nat):Int)) <| must (inI (s4.1 - 1)) <| k4 ((s4.1 - 1),((s4.2.set (s4.1).toNat (s4.2.getD ((s4.1 - 1)).toNat default)).set ((s4.1 - 1)).toNat (s4.2.getD (s4.1).toNat default))) else must (inI (s2.1+1)) <| k2 ((s2.1+1),s4.2))) fuel (s2.1,s2.2)) else some s2.2)) fuel ((p1+1),p0))
def zaO (fuel:Nat) (p0:(List Int)) (p1:Int) (p2:Int) (p3:Int) (p4:Int→Int→Option Int):Option (List Int):=
 (loopGo (fun (s1:Int×(List Int)) k1=>(bif (decide (s1.1<p3)) then must (inI (p1+s1.1)) <| must (inI (p2+s1.1)) <| must (inI (p2+s1.1)) <| must (0≤((p2+s1.1):Int)∧((p2+s1.1):Int)<((s1.2.length:Nat):Int)) <| must (inI (p1+s1.1)) <| must (0≤((p1+s1.1):Int)∧((p1+s1.1):Int)<((s1.2.length:Nat):Int)) <| must (0≤((p1+s1.1):Int)∧((p1+s1.1):Int)<((s1.2.length:Nat):Int)) <| must (0≤((p2+s1.1):Int)∧((p2+s1.1):Int)<(((s1.2.set ((p1+s1.1)).toNat (s1.2.getD ((p2+s1.1)).toNat default)).length:Nat):Int)) <| must (inI (s1.1+1)) <| k1 ((s1.1+1),((s1.2.set ((p1+s1.1)).toNat (s1.2.getD ((p2+s1.1)).toNat default)).set ((p2+s1.1)).toNat (s1.2.getD ((p1+s1.1)).toNat default))) else some s1.2)) fuel (0,p0))
def za6 (fuel:Nat) (p0:(List Int)) (p1:Int) (p2:Int) (p3:Int) (p4:Int→Int→Option Int):Option (List Int):=
 must (inI (p2 - p1)) <| must (inI (p3 - p2)) <| (loopGo (fun (s3:Int×Int×(List Int)) k3=>(bif (!decide (s3.1=s3.2.1)) then (bif (decide (s3.2.1<s3.1)) then must (inI (p2 - s3.1)) <| zam (zaO fuel s3.2.2 (p2 - s3.1) p2 s3.2.1 p4) fun y7=>must (y7.length=s3.2.2.length) <| must (inI (s3.1 - s3.2.1)) <| k3 ((s3.1 - s3.2.1),s3.2.1,y7) else must (inI (p2 - s3.1)) <| must (inI (p2+s3.2.1)) <| must (inI ((p2+s3.2.1) - s3.1)) <| zam (zaO fuel s3.2.2 (p2 - s3.1) ((p2+s3.2.1) - s3.1) s3.1 p4) fun y14=>must (y14.length=s3.2.2.length) <| must (inI (s3.2.1 - s3.1)) <| k3 (s3.1,(s3.2.1 - s3.1),y14)) else must (inI (p2 - s3.1)) <| zam (zaO fuel s3.2.2 (p2 - s3.1) p2 s3.1 p4) fun y19=>some y19)) fuel ((p2 - p1),(p3 - p2),p0))
def zaY (fuel:Nat) (rec:(List Int)→Int→Int→Int→(Int→Int→Option Int)→Option (List Int)) (p0:(List Int)) (p1:Int) (p2:Int) (p3:Int) (p4:Int→Int→Option Int):Option (List Int):=
 must (inI (p2 - p1)) <| (bif (decide ((p2 - p1)=1)) then (loopGo (fun (s3:Int×Int) k3=>(bif (decide (s3.1<s3.2)) then must (inI (s3.1+s3.2)) <| must (inU (s3.1+s3.2)) <| must (inI (Int.fdiv (s3.1+s3.2) (2 ^ (1:Int).toNat))) <| must (0≤((Int.fdiv (s3.1+s3.2) (2 ^ (1:Int).toNat)):Int)∧((Int.fdiv (s3.1+s3.2) (2 ^ (1:Int).toNat)):Int)<((p0.length:Nat):Int)) <| must (0≤(p1:Int)∧(p1:Int)<((p0.length:Nat):Int)) <| zam (p4 (p0.getD ((Int.fdiv (s3.1+s3.2) (2 ^ (1:Int).toNat))).toNat default) (p0.getD (p1).toNat default)) fun y10=>(bif (decide (y10<0)) then must (inI ((Int.fdiv (s3.1+s3.2) (2 ^ (1:Int).toNat))+1)) <| k3 (((Int.fdiv (s3.1+s3.2) (2 ^ (1:Int).toNat))+1),s3.2) else k3 (s3.1,(Int.fdiv (s3.1+s3.2) (2 ^ (1:Int).toNat)))) else (loopGo (fun (s14:Int×(List Int)) k14=>must (inI (s3.1 - 1)) <| (bif (decide (s14.1<(s3.1 - 1))) then must (inI (s14.1+1)) <| must (inI (s14.1+1)) <| must (0≤((s14.1+1):Int)∧((s14.1+1):Int)<((s14.2.length:Nat):Int)) <| must (0≤(s14.1:Int)∧(s14.1:Int)<((s14.2.length:Nat):Int)) <| must (0≤(s14.1:Int)∧(s14.1:Int)<((s14.2.length:Nat):Int)) <| must (0≤((s14.1+1):Int)∧((s14.1+1):Int)<(((s14.2.set (s14.1).toNat (s14.2.getD ((s14.1+1)).toNat default)).length:Nat):Int)) <| must (inI (s14.1+1)) <| k14 ((s14.1+1),((s14.2.set (s14.1).toNat (s14.2.getD ((s14.1+1)).toNat default)).set ((s14.1+1)).toNat (s14.2.getD (s14.1).toNat default))) else some s14.2)) fuel (p1,p0)))) fuel (p2,p3)) else must (inI (p3 - p2)) <| (bif (decide ((p3 - p2)=1)) then (loopGo (fun (s26:Int×Int) k26=>(bif (decide (s26.1<s26.2)) then must (inI (s26.1+s26.2)) <| must (inU (s26.1+s26.2)) <| must (inI (Int.fdiv (s26.1+s26.2) (2 ^ (1:Int).toNat))) <| must (0≤(p2:Int)∧(p2:Int)<((p0.length:Nat):Int)) <| must (0≤((Int.fdiv (s26.1+s26.2) (2 ^ (1:Int).toNat)):Int)∧((Int.fdiv (s26.1+s26.2) (2 ^ (1:Int).toNat)):Int)<((p0.length:Nat):Int)) <| zam (p4 (p0.getD (p2).toNat default) (p0.getD ((Int.fdiv (s26.1+s26.2) (2 ^ (1:Int).toNat))).toNat default)) fun y33=>(bif (!(decide (y33<0))) then must (inI ((Int.fdiv (s26.1+s26.2) (2 ^ (1:Int).toNat))+1)) <| k26 (((Int.fdiv (s26.1+s26.2) (2 ^ (1:Int).toNat))+1),s26.2) else k26 (s26.1,(Int.fdiv (s26.1+s26.2) (2 ^ (1:Int).toNat)))) else (loopGo (fun (s37:Int×(List Int)) k37=>(bif (decide (s26.1<s37.1)) then must (inI (s37.1 - 1)) <| must (inI (s37.1 - 1)) <| must (0≤((s37.1 - 1):Int)∧((s37.1 - 1):Int)<((s37.2.length:Nat):Int)) <| must (0≤(s37.1:Int)∧(s37.1:Int)<((s37.2.length:Nat):Int)) <| must (0≤(s37.1:Int)∧(s37.1:Int)<((s37.2.length:Nat):Int)) <| must (0≤((s37.1 - 1):Int)∧((s37.1 - 1):Int)<(((s37.2.set (s37.1).toNat (s37.2.getD ((s37.1 - 1)).toNat default)).length:Nat):Int)) <| must (inI (s37.1 - 1)) <| k37 ((s37.1 - 1),((s37.2.set (s37.1).toNat (s37.2.getD ((s37.1 - 1)).toNat default)).set ((s37.1 - 1)).toNat (s37.2.getD (s37.1).toNat default))) else some s37.2)) fuel (p2,p0)))) fuel (p1,p2)) else must (inI (p1+p3)) <| must (inU (p1+p3)) <| must (inI (Int.fdiv (p1+p3) (2 ^ (1:Int).toNat))) <| must (inI ((Int.fdiv (p1+p3) (2 ^ (1:Int).toNat))+p2)) <| (zib (fun (k50:Int×Int→_)=>(bif (decide ((Int.fdiv (p1+p3) (2 ^ (1:Int).toNat))<p2)) then must (inI (((Int.fdiv (p1+p3) (2 ^ (1:Int).toNat))+p2) - p3)) <| k50 ((((Int.fdiv (p1+p3) (2 ^ (1:Int).toNat))+p2) - p3),(Int.fdiv (p1+p3) (2 ^ (1:Int).toNat))) else k50 (p1,p2))) (fun (s50:Int×Int)=>must (inI (((Int.fdiv (p1+p3) (2 ^ (1:Int).toNat))+p2) - 1)) <| (loopGo (fun (s52:Int×Int) k52=>(bif (decide (s52.1<s52.2)) then must (inI (s52.1+s52.2)) <| must (inU (s52.1+s52.2)) <| must (inI (Int.fdiv (s52.1+s52.2) (2 ^ (1:Int).toNat))) <| must (inI ((((Int.fdiv (p1+p3) (2 ^ (1:Int).toNat))+p2) - 1) - (Int.fdiv (s52.1+s52.2) (2 ^ (1:Int).toNat)))) <| must (0≤(((((Int.fdiv (p1+p3) (2 ^ (1:Int).toNat))+p2) - 1) - (Int.fdiv (s52.1+s52.2) (2 ^ (1:Int).toNat))):Int)∧(((((Int.fdiv (p1+p3) (2 ^ (1:Int).toNat))+p2) - 1) - (Int.fdiv (s52.1+s52.2) (2 ^ (1:Int).toNat))):Int)<((p0.length:Nat):Int)) <| must (0≤((Int.fdiv (s52.1+s52.2) (2 ^ (1:Int).toNat)):Int)∧((Int.fdiv (s52.1+s52.2) (2 ^ (1:Int).toNat)):Int)<((p0.length:Nat):Int)) <| zam (p4 (p0.getD (((((Int.fdiv (p1+p3) (2 ^ (1:Int).toNat))+p2) - 1) - (Int.fdiv (s52.1+s52.2) (2 ^ (1:Int).toNat)))).toNat default) (p0.getD ((Int.fdiv (s52.1+s52.2) (2 ^ (1:Int).toNat))).toNat default)) fun y60=>(bif (!(decide (y60<0))) then must (inI ((Int.fdiv (s52.1+s52.2) (2 ^ (1:Int).toNat))+1)) <| k52 (((Int.fdiv (s52.1+s52.2) (2 ^ (1:Int).toNat))+1),s52.2) else k52 (s52.1,(Int.fdiv (s52.1+s52.2) (2 ^ (1:Int).toNat)))) else must (inI (((Int.fdiv (p1+p3) (2 ^ (1:Int).toNat))+p2) - s52.1)) <| (zib (fun (k65:(List Int)→_)=>(bif ((decide (s52.1<p2)) && (decide (p2<(((Int.fdiv (p1+p3) (2 ^ (1:Int).toNat))+p2) - s52.1)))) then zam (za6 fuel p0 s52.1 p2 (((Int.fdiv (p1+p3) (2 ^ (1:Int).toNat))+p2) - s52.1) p4) fun y75=>must (y75.length=p0.length) <| k65 y75 else k65 p0)) (fun (s65:(List Int))=>(zib (fun (k66:(List Int)→_)=>(bif ((decide (p1<s52.1)) && (decide (s52.1<(Int.fdiv (p1+p3) (2 ^ (1:Int).toNat))))) then zam (rec s65 p1 s52.1 (Int.fdiv (p1+p3) (2 ^ (1:Int).toNat)) p4) fun y71=>must (y71.length=s65.length) <| k66 y71 else k66 s65)) (fun (s66:(List Int))=>(bif ((decide ((Int.fdiv (p1+p3) (2 ^ (1:Int).toNat))<(((Int.fdiv (p1+p3) (2 ^ (1:Int).toNat))+p2) - s52.1))) && (decide ((((Int.fdiv (p1+p3) (2 ^ (1:Int).toNat))+p2) - s52.1)<p3))) then zam (rec s66 (Int.fdiv (p1+p3) (2 ^ (1:Int).toNat)) (((Int.fdiv (p1+p3) (2 ^ (1:Int).toNat))+p2) - s52.1) p3 p4) fun y68=>some y68 else some s66))))))) fuel (s50.1,s50.2))))))
def zaQ (fuel:Nat):Nat→(List Int)→Int→Int→Int→(Int→Int→Option Int)→Option (List Int)
 | 0=>fun _ _ _ _ _=>none
 | n+1=>zaY fuel (zaQ fuel n)
def zbw (fuel:Nat) (p0:(List Int)) (p1:Int) (p2:Int→Int→Option Int):Option (List Int):=
 (loopGo (fun (s1:Int×Int×(List Int)) k1=>(bif (decide (s1.2.1≤p1)) then zam (zaN fuel s1.2.2 s1.1 s1.2.1 p2) fun y3=>must (y3.length=s1.2.2.length) <| must (inI (s1.2.1+20)) <| k1 (s1.2.1,(s1.2.1+20),y3) else zam (zaN fuel s1.2.2 s1.1 p1 p2) fun y7=>must (y7.length=s1.2.2.length) <| (loopGo (fun (s10:Int×(List Int)) k10=>(bif (decide (s10.1<p1)) then must (inI (2 * s10.1)) <| (loopGo (fun (s13:Int×Int×(List Int)) k13=>(bif (decide (s13.2.1≤p1)) then must (inI (s13.1+s10.1)) <| zam (zaQ fuel fuel s13.2.2 s13.1 (s13.1+s10.1) s13.2.1 p2) fun y16=>must (y16.length=s13.2.2.length) <| must (inI (2 * s10.1)) <| must (inI (s13.2.1+(2 * s10.1))) <| k13 (s13.2.1,(s13.2.1+(2 * s10.1)),y16) else must (inI (s13.1+s10.1)) <| (zib (fun (k22:(List Int)→_)=>(bif (decide ((s13.1+s10.1)<p1)) then zam (zaQ fuel fuel s13.2.2 s13.1 (s13.1+s10.1) p1 p2) fun y25=>must (y25.length=s13.2.2.length) <| k22 y25 else k22 s13.2.2)) (fun (s22:(List Int))=>must (inI (s10.1 * 2)) <| k10 ((s10.1 * 2),s22))))) fuel (0,(2 * s10.1),s10.2)) else some s10.2)) fuel (20,y7)))) fuel (0,20,p0))
def zaD (fuel:Nat) (p0:(List Int)) (p1:Int→Int→Option Int):Option (List Int):=
 zam (zbw fuel p0 ((p0.length:Nat):Int) p1) fun y1=>some y1
def cmp_isNaN_int (p0:Int):Bool:=
 (!decide (p0=p0))
def zbs (p0:Int) (p1:Int):Int:=
 (bif (cmp_isNaN_int p0) then (bif (cmp_isNaN_int p1) then 0 else (-1)) else (bif (cmp_isNaN_int p1) then 1 else (bif (decide (p0<p1)) then (-1) else (bif (decide (p1<p0)) then 1 else 0))))
def zbI (p0:Int) (p1:Int) (c0:Wear):Option Int:=
 must (0≤(p0:Int)∧(p0:Int)<((c0.Burns.length:Nat):Int)) <| must (0≤(p1:Int)∧(p1:Int)<((c0.Burns.length:Nat):Int)) <| some (zbs ((c0.Burns.getD (p0).toNat default).Night) ((c0.Burns.getD (p1).toNat default).Night))
def zeh (fuel:Nat) (p0:Wear) (p1:Int):Option (Mp (List Int)):=
 (zaq (fun i1 (s1:(Mp (List Int))) k1=>zam (zb0 p0 ((p0.Burns.getD i1 default).Lamp) ((p0.Burns.getD i1 default).Night) p1) fun y3=>must ((((decide (0≤y3)) && (zap ((p0.Burns.getD i1 default).Known) ((p0.Burns.getD i1 default).Until) p1))=true→((0:Int)≤((i1:Int)+1)∧(((i1:Int)+1):Int)≤((p0.Burns.length:Nat):Int)))) <| zam ((bif ((decide (0≤y3)) && (zap ((p0.Burns.getD i1 default).Known) ((p0.Burns.getD i1 default).Until) p1)) then zcp (p0.Burns.drop (((i1:Int)+1)).toNat) (fun x0=>some (zbi x0 (p0.Burns.getD i1 default) p1)) else some default)) fun y6=>(bif (((decide (0≤y3)) && (zap ((p0.Burns.getD i1 default).Known) ((p0.Burns.getD i1 default).Until) p1)) && (!y6)) then must (room (((s1.get y3).getD [])++([(i1:Int)]:List Int)).length 8) <| k1 (s1.set y3 (((s1.get y3).getD [])++([(i1:Int)]:List Int))) else k1 s1)) (fun (s1:(Mp (List Int)))=>must (s1.ok) <| zam (s1.znm (fun (l11:List Int)=>zam (zaD fuel l11 (fun x0 x1=>zbI x0 x1 p0)) fun y13=>must (y13.length=l11.length) (some y13))) fun y11=>some y11) p0.Burns.length 0 (Mp.empty:Mp (List Int)))
def zbO (p0:(List mantle_sight)):Option (List mantle_sight):=
 must (room (([]:List mantle_sight)++p0).length 16) <| some (([]:List mantle_sight)++p0)
def zbF (p0:mantle_coat) (p1:mantle_sight):Option mantle_coat:=
 zam (zbO p0.sights) fun y1=>must (room (y1++([p1]:List mantle_sight)).length 16) <| some (⟨p0.w,p0.burns,(y1++([p1]:List mantle_sight))⟩:mantle_coat)
def zbL (c0:mantle_closet):Option (List (Int×mantle_coat)):=
 must (c0.w.Mantles.length≤9223372036854775807) <| (zaq (fun i1 (s1:Unit) k1=>zkc true ((i1:Int),((c0.coats.get (i1:Int)).getD default)) <| k1 ()) (fun (s1:Unit)=>some []) c0.w.Mantles.length 0 ())
def zcs (p0:mantle_coat):Option (Int×Int):=
 (zaq (fun i1 (s1:Int×Int) k1=>(bif (!((p0.sights.getD i1 default).bad)) then k1 ((max s1.1 ((p0.sights.getD i1 default).night)),s1.2) else (bif ((decide (s1.2=(-1))) || (decide ((p0.sights.getD i1 default).night<s1.2))) then k1 (s1.1,(p0.sights.getD i1 default).night) else k1 (s1.1,s1.2)))) (fun (s1:Int×Int)=>some (s1.1,s1.2)) p0.sights.length 0 ((-1),(-1)))
def zbd (p0:mantle_coat) (p1:Int) (p2:Int):Option Range:=
 (zaq (fun i1 (s1:Range) k1=>must (0≤((p0.burns.getD i1 default):Int)∧((p0.burns.getD i1 default):Int)<((p0.w.Burns.length:Nat):Int)) <| (bif ((decide (p1<(p0.w.Burns.getD ((p0.burns.getD i1 default)).toNat default).Night)) && (decide ((p0.w.Burns.getD ((p0.burns.getD i1 default)).toNat default).Night≤p2))) then must (inI (s1.Lo+(p0.w.Burns.getD ((p0.burns.getD i1 default)).toNat default).Minutes.Lo)) <| must (inI (s1.Hi+(p0.w.Burns.getD ((p0.burns.getD i1 default)).toNat default).Minutes.Hi)) <| k1 (⟨(s1.Lo+(p0.w.Burns.getD ((p0.burns.getD i1 default)).toNat default).Minutes.Lo),(s1.Hi+(p0.w.Burns.getD ((p0.burns.getD i1 default)).toNat default).Minutes.Hi)⟩:Range) else k1 s1)) (fun (s1:Range)=>some s1) p0.burns.length 0 (⟨0,0⟩:Range))
def zbo (p0:mantle_coat):Option Range:=
 zam (zcs p0) fun y1=>(zib (fun (k3:Int→_)=>(bif (!decide (y1.1=(-1))) then zam (zbd p0 (-1) y1.1) fun y13=>k3 y13.Lo else k3 0)) (fun (s3:Int)=>(zib (fun (k4:Int→_)=>(bif (!decide (y1.2=(-1))) then zam (zbd p0 (-1) y1.2) fun y9=>must (inI (y9.Hi - 1)) <| k4 (min 1000000 (y9.Hi - 1)) else k4 1000000)) (fun (s4:Int)=>zam ((bif (((!decide (y1.1=(-1))) && (!decide (y1.2=(-1)))) && !(decide (y1.2≤y1.1))) then zbd p0 y1.1 y1.2 else some default)) fun y5=>(bif (((!decide (y1.1=(-1))) && (!decide (y1.2=(-1)))) && ((decide (y1.2≤y1.1)) || (decide (y5.Hi=0)))) then some (⟨1,0⟩:Range) else some (⟨s3,s4⟩:Range))))))
def zaT (p0:Range) (p1:Range):Range:=
 (⟨(max p0.Lo p1.Lo),(min p0.Hi p1.Hi)⟩:Range)
def zbp (p0:mantle_closet) (p1:Int) (p2:Range):Option mantle_closet:=
 must (0≤(p1:Int)∧(p1:Int)<((p0.lives.length:Nat):Int)) <| must (0≤(p1:Int)∧(p1:Int)<((p0.lives.length:Nat):Int)) <| some (⟨p0.w,p0.known,p0.coats,(p0.lives.set (p1).toNat (zaT (p0.lives.getD (p1).toNat default) p2))⟩:mantle_closet)
def zcy (fuel:Nat) (p0:Wear) (p1:(List Look)) (p2:Int):Option mantle_closet:=
 zam (zeh fuel p0 p2) fun y1=>must (p0.Mantles.length≤9223372036854775807) <| (zaq (fun i3 (s3:(Mp mantle_coat)) k3=>k3 (s3.set (i3:Int) (⟨p0,((y1.get (i3:Int)).getD default),[]⟩:mantle_coat))) (fun (s3:(Mp mantle_coat))=>(zaq (fun i5 (s5:(Mp mantle_coat)) k5=>zam (zb0 p0 ((p1.getD i5 default).Lamp) ((p1.getD i5 default).Night) p2) fun y7=>(bif ((decide (0≤y7)) && (zap ((p1.getD i5 default).Known) ((p1.getD i5 default).Until) p2)) then zam (zbF ((s5.get y7).getD default) (⟨(p1.getD i5 default).Night,(p1.getD i5 default).Bad⟩:mantle_sight)) fun y10=>k5 (s5.set y7 y10) else k5 s5)) (fun (s5:(Mp mantle_coat))=>(zaq (fun i12 (s12:(List Range)) k12=>must (room (s12++([(p0.Batches.getD i12 default).Life]:List Range)).length 16) <| k12 (s12++([(p0.Batches.getD i12 default).Life]:List Range))) (fun (s12:(List Range))=>zam (zbL (⟨p0,p2,s5,[]⟩:mantle_closet)) fun it15=>(ziy (fun (x15:Int×mantle_coat) (s16:(List Range)) k16=>must (0≤(x15.1:Int)∧(x15.1:Int)<((p0.Mantles.length:Nat):Int)) <| zam (zb1 p0 ((p0.Mantles.getD (x15.1).toNat default).Batch)) fun y18=>zam (zbo x15.2) fun y20=>zam (zbp (⟨p0,p2,s5,s16⟩:mantle_closet) y18 y20) fun y22=>must (y22.lives.length=s16.length) <| k16 y22.lives) (fun (s16:(List Range))=>some (⟨p0,p2,s5,s16⟩:mantle_closet)) it15 s12)) p0.Batches.length 0 ([]:List Range))) p1.length 0 s3)) p0.Mantles.length 0 (Mp.empty:Mp mantle_coat))
def zh7 (fuel:Nat) (p0:Wear) (p1:Int) (p2:Int) (p3:Int):Option (Range×Int):=
 zam (zdd p0 p1 p2 p3) fun y1=>(bif (!decide (y1.2=0)) then some ((⟨0,0⟩:Range),y1.2) else zam (zcy fuel p0 [] p3) fun y4=>zam (zbd ((y4.coats.get y1.1).getD default) (-1) p2) fun y6=>some (y6,0))
def zcO (p0:(List Range)) (p1:Range→Option Bool):Option Int:=
 (zaq (fun i1 (s1:Unit) k1=>zam (p1 (p0.getD i1 default)) fun y3=>(bif y3 then some (i1:Int) else k1 ())) (fun (s1:Unit)=>some (-1)) p0.length 0 ())
def zbG (p0:(List Range)) (p1:Range→Option Bool):Option Bool:=
 zam (zcO p0 p1) fun y1=>some (decide (0≤y1))
def zaV (p0:Range):Bool:=
 (decide (p0.Hi<p0.Lo))
def zaR (p0:mantle_closet):Option Bool:=
 zam (zbG p0.lives (fun x0=>some (zaV x0))) fun y1=>some (!y1)
def zdH (fuel:Nat) (p0:Wear) (p1:Int):Option (mantle_closet×Int):=
 zam (zcy fuel p0 p0.Looks p1) fun y1=>zam (zaR y1) fun y3=>(bif (!y3) then some ((⟨(⟨[],[],[],[]⟩:Wear),0,(Mp.empty:Mp mantle_coat),[]⟩:mantle_closet),65) else some (y1,0))
def zhc (fuel:Nat) (p0:Wear) (p1:Int) (p2:Int):Option (Range×Int):=
 zam (zbZ p0 ([p2]:List Int)) fun y1=>(bif (!decide (y1=0)) then some ((⟨0,0⟩:Range),y1) else zam (zb1 p0 p1) fun y4=>(bif (decide (y4<0)) then some ((⟨0,0⟩:Range),3) else zam (zdH fuel p0 p2) fun y7=>(bif (!decide (y7.2=0)) then some ((⟨0,0⟩:Range),y7.2) else must (0≤(y4:Int)∧(y4:Int)<((y7.1.lives.length:Nat):Int)) <| some ((y7.1.lives.getD (y4).toNat default),0))))
def zaW (p0:mantle_closet) (p1:Int):Option Int:=
 must (0≤(p1:Int)∧(p1:Int)<((p0.w.Mantles.length:Nat):Int)) <| zam (zb1 p0.w ((p0.w.Mantles.getD (p1).toNat default).Batch)) fun y2=>some y2
def zbQ (p0:mantle_closet) (p1:Int) (p2:Int) (p3:Bool):Option Range:=
 zam (zaW p0 p1) fun y1=>must (0≤(y1:Int)∧(y1:Int)<((p0.lives.length:Nat):Int)) <| zam (zbF ((p0.coats.get p1).getD default) (⟨p2,p3⟩:mantle_sight)) fun y4=>zam (zbo y4) fun y6=>some (zaT (p0.lives.getD (y1).toNat default) y6)
def zaS (p0:mantle_closet) (p1:Int) (p2:Int):Option Int:=
 zam (zbQ p0 p1 p2 true) fun y1=>(bif (zaV y1) then some 0 else zam (zbQ p0 p1 p2 false) fun y4=>(bif (zaV y4) then some 1 else some 2))
def zc0 (fuel:Nat) (p0:Wear) (p1:Int) (p2:Int) (p3:Int):Option (Int×Int):=
 zam (zdd p0 p1 p2 p3) fun y1=>(bif (!decide (y1.2=0)) then some (0,y1.2) else zam (zdH fuel p0 p3) fun y4=>(bif (!decide (y4.2=0)) then some (0,y4.2) else zam (zaS y4.1 y1.1 p2) fun y7=>some (y7,0)))
def zeg (p0:(List Int)):Option Bool:=
 (zaq (fun i1 (s1:Unit) k1=>must ((((!(!(zaI (p0.getD i1 default)))) && (decide (0<(i1:Int))))=true→(inI ((i1:Int) - 1)))) <| must ((((!(!(zaI (p0.getD i1 default)))) && (decide (0<(i1:Int))))=true→(0≤(((i1:Int) - 1):Int)∧(((i1:Int) - 1):Int)<((p0.length:Nat):Int)))) <| (bif ((!(zaI (p0.getD i1 default))) || ((decide (0<(i1:Int))) && (decide ((p0.getD i1 default)≤(p0.getD (((i1:Int) - 1)).toNat default))))) then some false else k1 ())) (fun (s1:Unit)=>some (zaC ((p0.length:Nat):Int) 1 20)) p0.length 0 ())
def zef (fuel:Nat) (p0:Wear) (p1:(List Int)) (p2:Int) (p3:Int) (p4:Int):Option (mantle_lot×Int):=
 zam (zce p0) fun y1=>(bif (!decide (y1=0)) then some ((⟨(⟨(⟨[],[],[],[]⟩:Wear),0,(Mp.empty:Mp mantle_coat),[]⟩:mantle_closet),[],[],0⟩:mantle_lot),y1) else (bif (!(zaC p4 0 20)) then some ((⟨(⟨(⟨[],[],[],[]⟩:Wear),0,(Mp.empty:Mp mantle_coat),[]⟩:mantle_closet),[],[],0⟩:mantle_lot),1) else zam (zeg p1) fun y5=>(bif (!y5) then some ((⟨(⟨(⟨[],[],[],[]⟩:Wear),0,(Mp.empty:Mp mantle_coat),[]⟩:mantle_closet),[],[],0⟩:mantle_lot),69) else (bif ((!(zaM p2)) || (!(zaM p3))) then some ((⟨(⟨(⟨[],[],[],[]⟩:Wear),0,(Mp.empty:Mp mantle_coat),[]⟩:mantle_closet),[],[],0⟩:mantle_lot),6) else zam (zcy fuel p0 p0.Looks p3) fun y9=>(zaq (fun i11 (s11:(List Int)) k11=>zam (zb0 p0 (p1.getD i11 default) p2 p3) fun y13=>(bif (decide (y13<0)) then some ((⟨(⟨(⟨[],[],[],[]⟩:Wear),0,(Mp.empty:Mp mantle_coat),[]⟩:mantle_closet),[],[],0⟩:mantle_lot),66) else must (room (s11++([y13]:List Int)).length 8) <| k11 (s11++([y13]:List Int)))) (fun (s11:(List Int))=>some ((⟨y9,p1,s11,p2⟩:mantle_lot),0)) p1.length 0 ([]:List Int))))))
def zbK (fuel:Nat) (p0:Wear) (p1:(List Int)) (p2:Int) (p3:Int) (p4:Int):Option (mantle_lot×Int):=
 zam (zef fuel p0 p1 p2 p3 p4) fun y1=>zam ((bif (decide (y1.2=0)) then zaR y1.1.closet else some default)) fun y3=>(bif ((decide (y1.2=0)) && (!y3)) then some ((⟨(⟨(⟨[],[],[],[]⟩:Wear),0,(Mp.empty:Mp mantle_coat),[]⟩:mantle_closet),[],[],0⟩:mantle_lot),65) else some (y1.1,y1.2))
def za8 (p0:mantle_lot):Option Range:=
 (zaq (fun i1 (s1:Range) k1=>zam (zaS p0.closet (p0.mantles.getD i1 default) p0.night) fun y3=>(bif (decide (y3=1)) then must (inI (s1.Lo+1)) <| must (inI (s1.Hi+1)) <| k1 (⟨(s1.Lo+1),(s1.Hi+1)⟩:Range) else (bif (decide (y3=2)) then must (inI (s1.Hi+1)) <| k1 (⟨s1.Lo,(s1.Hi+1)⟩:Range) else k1 s1))) (fun (s1:Range)=>some s1) p0.mantles.length 0 (⟨0,0⟩:Range))
def zgC (fuel:Nat) (p0:Wear) (p1:(List Int)) (p2:Int) (p3:Int):Option (Range×Int):=
 zam (zbK fuel p0 p1 p2 p3 0) fun y1=>(bif (!decide (y1.2=0)) then some ((⟨0,0⟩:Range),y1.2) else zam (za8 y1.1) fun y4=>some (y4,0))
def za7 (p0:mantle_lot):Option (List Int):=
 (zaq (fun i1 (s1:(List Int)) k1=>zam (zaS p0.closet (p0.mantles.getD i1 default) p0.night) fun y3=>(bif (decide (y3=2)) then must (room (s1++([(i1:Int)]:List Int)).length 8) <| k1 (s1++([(i1:Int)]:List Int)) else k1 s1)) (fun (s1:(List Int))=>some s1) p0.mantles.length 0 ([]:List Int))
def zbP (p0:(List Range)):Option (List Range):=
 must (room (([]:List Range)++p0).length 16) <| some (([]:List Range)++p0)
def zbe (p0:mantle_closet) (p1:Int) (p2:Range):Option mantle_closet:=
 must (0≤(p1:Int)∧(p1:Int)<((p0.lives.length:Nat):Int)) <| must (0≤(p1:Int)∧(p1:Int)<((p0.lives.length:Nat):Int)) <| some (⟨p0.w,p0.known,p0.coats,(p0.lives.set (p1).toNat (zaT (p0.lives.getD (p1).toNat default) p2))⟩:mantle_closet)
def zbn (p0:mantle_lot) (p1:(List Int)) (p2:Bool):Option mantle_lot:=
 zam (zbP p0.closet.lives) fun y4=>(zaq (fun i6 (s6:(List Range)×(Mp mantle_coat)) k6=>must (0≤((p1.getD i6 default):Int)∧((p1.getD i6 default):Int)<((p0.mantles.length:Nat):Int)) <| zam (zbF ((s6.2.get (p0.mantles.getD ((p1.getD i6 default)).toNat default)).getD default) (⟨p0.night,p2⟩:mantle_sight)) fun y9=>zam (zaW (⟨p0.closet.w,p0.closet.known,(s6.2.set (p0.mantles.getD ((p1.getD i6 default)).toNat default) y9),s6.1⟩:mantle_closet) (p0.mantles.getD ((p1.getD i6 default)).toNat default)) fun y11=>zam (zbo (((s6.2.set (p0.mantles.getD ((p1.getD i6 default)).toNat default) y9).get (p0.mantles.getD ((p1.getD i6 default)).toNat default)).getD default)) fun y13=>zam (zbe (⟨p0.closet.w,p0.closet.known,(s6.2.set (p0.mantles.getD ((p1.getD i6 default)).toNat default) y9),s6.1⟩:mantle_closet) y11 y13) fun y15=>must (y15.lives.length=s6.1.length) <| k6 (y15.lives,y15.coats)) (fun (s6:(List Range)×(Mp mantle_coat))=>some (⟨(⟨p0.closet.w,p0.closet.known,s6.2,s6.1⟩:mantle_closet),p0.lamps,p0.mantles,p0.night⟩:mantle_lot)) p1.length 0 (y4,p0.closet.coats))
def za2 (p0:mantle_lot) (p1:(List Int)) (p2:Bool):Option Int:=
 zam (zbn p0 p1 p2) fun y1=>zam (za7 p0) fun y3=>(zaq (fun i5 (s5:Int) k5=>must (0≤((y3.getD i5 default):Int)∧((y3.getD i5 default):Int)<((p0.mantles.length:Nat):Int)) <| zam (zaS y1.closet (p0.mantles.getD ((y3.getD i5 default)).toNat default) p0.night) fun y8=>(bif (!decide (y8=2)) then must (inI (s5+1)) <| k5 (s5+1) else k5 s5)) (fun (s5:Int)=>some s5) y3.length 0 0)
def zcr (p0:mantle_lot) (p1:Int) (p2:Bool):Option (List (List Int)):=
 zam (za7 p0) fun y1=>(zaq (fun i3 (s3:(List Int)) k3=>must (0≤((y1.getD i3 default):Int)∧((y1.getD i3 default):Int)<((p0.mantles.length:Nat):Int)) <| zam (zaW p0.closet (p0.mantles.getD ((y1.getD i3 default)).toNat default)) fun y6=>(bif (decide (y6=p1)) then must (room (s3++([(y1.getD i3 default)]:List Int)).length 8) <| k3 (s3++([(y1.getD i3 default)]:List Int)) else k3 s3)) (fun (s3:(List Int))=>must (inI (((s3.length:Nat):Int)+1)) <| must (0≤((((s3.length:Nat):Int)+1):Int)∧((((s3.length:Nat):Int)+1):Int)≤(((s3.length:Nat):Int)+1)∧room ((((s3.length:Nat):Int)+1):Int).toNat 24) <| must (inI (((s3.length:Nat):Int)+1)) <| must (0≤((((s3.length:Nat):Int)+1):Int)∧((((s3.length:Nat):Int)+1):Int)≤(((s3.length:Nat):Int)+1)∧room ((((s3.length:Nat):Int)+1):Int).toNat 8) <| must (s3.length≤9223372036854775807) <| (zaq (fun i14 (s14:(List (List Int))×(List Int)) k14=>zam (zbn p0 ([(s3.getD i14 default)]:List Int) p2) fun y16=>must (s3.length≤9223372036854775807) <| (zaq (fun i18 (s18:(List Int)) k18=>must (((!decide ((s3.getD i18 default)=(s3.getD i14 default)))=true→(0≤((s3.getD i18 default):Int)∧((s3.getD i18 default):Int)<((p0.mantles.length:Nat):Int)))) <| zam ((bif (!decide ((s3.getD i18 default)=(s3.getD i14 default))) then zaS y16.closet (p0.mantles.getD ((s3.getD i18 default)).toNat default) p0.night else some default)) fun y21=>(bif ((!decide ((s3.getD i18 default)=(s3.getD i14 default))) && (decide (y21=2))) then must (room (s18++([(s3.getD i18 default)]:List Int)).length 8) <| k18 (s18++([(s3.getD i18 default)]:List Int)) else k18 s18)) (fun (s18:(List Int))=>must (inI (((s3.length:Nat):Int)+1)) <| must (((((s3.length:Nat):Int)+1)).toNat≤9223372036854775807) <| (zaq (fun i26 (s26:(List (List Int))×(List Int)) k26=>(zib (fun (k28:(List (List Int))×(List Int)→_)=>(bif (decide ((i26:Int)=0)) then k28 (s26.1,s26.2) else must (inI ((i26:Int) - 1)) <| must ((0:Int)≤(min ((i26:Int) - 1) ((s18.length:Nat):Int))∧((min ((i26:Int) - 1) ((s18.length:Nat):Int)):Int)≤((s18.length:Nat):Int)) <| must (room (([(s3.getD i14 default)]:List Int)++(s18.take ((min ((i26:Int) - 1) ((s18.length:Nat):Int))).toNat)).length 8) <| zam (za2 p0 (([(s3.getD i14 default)]:List Int)++(s18.take ((min ((i26:Int) - 1) ((s18.length:Nat):Int))).toNat)) p2) fun y33=>must (0≤((i26:Int):Int)∧((i26:Int):Int)<((s26.1.length:Nat):Int)) <| must (((!((s26.1.getD i26 default).isEmpty))=true→(0≤((i26:Int):Int)∧((i26:Int):Int)<((s26.2.length:Nat):Int)))) <| (bif (((s26.1.getD i26 default).isEmpty) || (decide ((s26.2.getD i26 default)<y33))) then must (0≤((i26:Int):Int)∧((i26:Int):Int)<((s26.1.length:Nat):Int)) <| must ((([(s3.getD i14 default)]:List Int)++(s18.take ((min ((i26:Int) - 1) ((s18.length:Nat):Int))).toNat)).isEmpty=false) <| must (0≤((i26:Int):Int)∧((i26:Int):Int)<((s26.2.length:Nat):Int)) <| k28 ((s26.1.set i26 (([(s3.getD i14 default)]:List Int)++(s18.take ((min ((i26:Int) - 1) ((s18.length:Nat):Int))).toNat))),(s26.2.set i26 y33)) else k28 (s26.1,s26.2)))) (fun (s28:(List (List Int))×(List Int))=>k26 (s28.1,s28.2)))) (fun (s26:(List (List Int))×(List Int))=>k14 (s26.1,s26.2)) (((((s3.length:Nat):Int)+1)).toNat) 0 (s14.1,s14.2))) s3.length 0 ([]:List Int))) (fun (s14:(List (List Int))×(List Int))=>some s14.1) s3.length 0 ((List.replicate ((((s3.length:Nat):Int)+1)).toNat ([]:(List Int))),(List.replicate ((((s3.length:Nat):Int)+1)).toNat (0:Int))))) y1.length 0 ([]:List Int))
def zcx (p1:Int):Option (List Int):=
 (zib (fun (k1:Unit→_)=>(bif (decide (p1<0)) then none else k1 ())) (fun (s1:Unit)=>must (inI (0 - 0)) <| must (inI (p1 - (0 - 0))) <| (bif (decide (0<(p1 - (0 - 0)))) then must (0<((p1 - (0 - 0)):Int)∧room ((p1 - (0 - 0))).toNat 8) <| must (0<(List.replicate ((p1 - (0 - 0))).toNat (0:Int)).length∧0≤(0:Int)∧(0:Int)≤(((List.replicate ((p1 - (0 - 0))).toNat (0:Int)).length:Nat):Int)) <| some ((List.replicate ((p1 - (0 - 0))).toNat (0:Int)).take 0) else some ([]:List Int))))
def zcq (p0:(List (List Int))):Option (List Int):=
 (zaq (fun i1 (s1:Int) k1=>must (inI (s1+(((p0.getD i1 default).length:Nat):Int))) <| (bif (decide ((s1+(((p0.getD i1 default).length:Nat):Int))<0)) then none else k1 (s1+(((p0.getD i1 default).length:Nat):Int)))) (fun (s1:Int)=>zam (zcx s1) fun y5=>(zaq (fun i7 (s7:(List Int)) k7=>must (room (s7++(p0.getD i7 default)).length 8) <| k7 (s7++(p0.getD i7 default))) (fun (s7:(List Int))=>some s7) p0.length 0 y5)) p0.length 0 0)
def zaG (p0:Range) (p1:Int):Int:=
 (bif (decide (p1<p0.Lo)) then 1 else (bif (decide (p0.Hi≤p1)) then 0 else 2))
def zbc (p0:mantle_lot) (p1:(List Int)) (p2:Int) (p3:Bool):Option Bool:=
 zam (zbn p0 p1 p3) fun y1=>zam (zaR y1.closet) fun y3=>(bif (!y3) then some false else (bif p3 then zam (za8 y1) fun y7=>some (decide ((zaG y7 p2)=1)) else zam (za8 y1) fun y9=>some (decide ((zaG y9 p2)=0))))
def zbW (fuel:Nat) (p0:mantle_lot) (p1:Int) (p2:Bool) (post:((List Int)×Bool)→Option Unit):Option Unit:=
 must (p0.closet.w.Batches.length≤9223372036854775807) <| (zaq (fun i1 (s1:(Mp (List Int))) k1=>zam (zcr p0 (i1:Int) p2) fun y3=>must (s1.ok) <| zdV (fun q5 (s5:(Mp (List Int))) k5=>(zaq (fun i7 (s7:(Mp (List Int))) k7=>zam (zcq ([((s1.get q5).getD default),(y3.getD i7 default)]:List (List Int))) fun y9=>must (inI (q5+(((y3.getD i7 default).length:Nat):Int))) <| zam ((bif (!(!((s7.get (q5+(((y3.getD i7 default).length:Nat):Int))).isSome))) then za2 p0 y9 p2 else some default)) fun y12=>zam ((bif (!(!((s7.get (q5+(((y3.getD i7 default).length:Nat):Int))).isSome))) then za2 p0 ((s7.get (q5+(((y3.getD i7 default).length:Nat):Int))).getD default) p2 else some default)) fun y14=>(bif ((!((s7.get (q5+(((y3.getD i7 default).length:Nat):Int))).isSome)) || (decide (y14<y12))) then must (inI (q5+(((y3.getD i7 default).length:Nat):Int))) <| k7 (s7.set (q5+(((y3.getD i7 default).length:Nat):Int)) y9) else k7 s7)) (fun (s7:(Mp (List Int)))=>k5 s7) y3.length 0 s5)) (fun (s5:(Mp (List Int)))=>k1 s5) s1.card s1.keys (Mp.empty:Mp (List Int))) (fun (s1:(Mp (List Int)))=>(loopGo (fun (s19:Int) k19=>(bif (decide (s19≤((p0.lamps.length:Nat):Int))) then zam ((bif (s1.get s19).isSome then zbc p0 ((s1.get s19).getD default) p1 p2 else some default)) fun y21=>(bif (((s1.get s19).isSome) && y21) then post (((s1.get s19).getD default),true) else must (inI (s19+1)) <| k19 (s19+1)) else post ([],false))) fuel 0)) p0.closet.w.Batches.length 0 ((Mp.empty:Mp (List Int)).set 0 []))
def zct (fuel:Nat) (p0:Wear) (p1:(List Int)) (p2:Int) (p3:Int) (p4:Int) (p5:Bool) (post:((List Int)×Int)→Option Unit):Option Unit:=
 zam (zbK fuel p0 p1 p2 p3 p4) fun y1=>(bif (!decide (y1.2=0)) then post ([],y1.2) else zbW fuel y1.1 p4 p5 (fun y4=>(bif (!y4.2) then post ([],3) else (zaq (fun i6 (s6:(List Int)) k6=>must (0≤((y4.1.getD i6 default):Int)∧((y4.1.getD i6 default):Int)<((p1.length:Nat):Int)) <| must (room (s6++([(p1.getD ((y4.1.getD i6 default)).toNat default)]:List Int)).length 8) <| k6 (s6++([(p1.getD ((y4.1.getD i6 default)).toNat default)]:List Int))) (fun (s6:(List Int))=>zam (zco s6) fun y10=>must (y10.length=s6.length) <| post (y10,0)) y4.1.length 0 ([]:List Int)))))
def zbY (fuel:Nat) (p0:(List Look)) (p1:Look) (p2:Look→Look→Option Int):Option (Int×Bool):=
 (loopGo (fun (s1:Int×Int) k1=>(bif (decide (s1.2<s1.1)) then must (inI (s1.2+s1.1)) <| must (inU (s1.2+s1.1)) <| must (inI (Int.fdiv (s1.2+s1.1) (2 ^ (1:Int).toNat))) <| must (0≤((Int.fdiv (s1.2+s1.1) (2 ^ (1:Int).toNat)):Int)∧((Int.fdiv (s1.2+s1.1) (2 ^ (1:Int).toNat)):Int)<((p0.length:Nat):Int)) <| zam (p2 (p0.getD ((Int.fdiv (s1.2+s1.1) (2 ^ (1:Int).toNat))).toNat default) p1) fun y7=>(bif (decide (y7<0)) then must (inI ((Int.fdiv (s1.2+s1.1) (2 ^ (1:Int).toNat))+1)) <| k1 (s1.1,((Int.fdiv (s1.2+s1.1) (2 ^ (1:Int).toNat))+1)) else k1 ((Int.fdiv (s1.2+s1.1) (2 ^ (1:Int).toNat)),s1.2)) else must (((decide (s1.2<((p0.length:Nat):Int)))=true→(0≤(s1.2:Int)∧(s1.2:Int)<((p0.length:Nat):Int)))) <| zam ((bif (decide (s1.2<((p0.length:Nat):Int))) then p2 (p0.getD (s1.2).toNat default) p1 else some default)) fun y12=>some (s1.2,((decide (s1.2<((p0.length:Nat):Int))) && (decide (y12=0)))))) fuel (((p0.length:Nat):Int),0))
def zc1 (p0:Look) (p1:Look):Int:=
 (zbs p0.Source p1.Source)
def zdM (p0:(List Batch)):Option (List Batch):=
 must (room (([]:List Batch)++p0).length 24) <| some (([]:List Batch)++p0)
def zdw (p0:(List Mantle)):Option (List Mantle):=
 must (room (([]:List Mantle)++p0).length 48) <| some (([]:List Mantle)++p0)
def zdX (p0:(List Burn)):Option (List Burn):=
 must (room (([]:List Burn)++p0).length 56) <| some (([]:List Burn)++p0)
def zbE (p0:(List Look)):Option (List Look):=
 must (room (([]:List Look)++p0).length 48) <| some (([]:List Look)++p0)
def zdK (p0:List Look) (p1:Int) (p2:Look):Option (List Look):=
 must (0≤p1∧p1≤(p0.length:Int)) <| must (room (p0.length+1) 48) <| some (p0.take p1.toNat++[p2]++p0.drop p1.toNat)
def zfD (fuel:Nat) (p0:Wear) (p1:Look):Option (Wear×Int):=
 zam (zce p0) fun y1=>(bif (!decide (y1=0)) then some ((⟨[],[],[],[]⟩:Wear),y1) else zam (zbY fuel p0.Looks p1 (fun x0 x1=>some (zc1 x0 x1))) fun y4=>(bif ((!decide ((za4 p1)=0)) || y4.2) then some ((⟨[],[],[],[]⟩:Wear),63) else (bif (decide (((p0.Looks.length:Nat):Int)=60)) then some ((⟨[],[],[],[]⟩:Wear),2) else zam (zdM p0.Batches) fun y8=>zam (zdw p0.Mantles) fun y10=>zam (zdX p0.Burns) fun y12=>zam (zbE p0.Looks) fun y14=>zam (zdK y14 y4.1 p1) fun y16=>some ((⟨y8,y10,y12,y16⟩:Wear),0))))
def zcX (p0:(List Look)) (p1:Look→Option Bool):Option Int:=
 (zaq (fun i1 (s1:Unit) k1=>zam (p1 (p0.getD i1 default)) fun y3=>(bif y3 then some (i1:Int) else k1 ())) (fun (s1:Unit)=>some (-1)) p0.length 0 ())
def zcP (fuel:Nat) (p0:(List Look)) (p1:Look→Option Bool):Option (List Look):=
 zam (zcX p0 p1) fun y1=>(bif (decide (y1=(-1))) then some p0 else must (inI (y1+1)) <| (loopGo (fun (s5:Int×Int×(List Look)) k5=>(bif (decide (s5.2.1<((s5.2.2.length:Nat):Int))) then must (0≤(s5.2.1:Int)∧(s5.2.1:Int)<((s5.2.2.length:Nat):Int)) <| zam (p1 (s5.2.2.getD (s5.2.1).toNat default)) fun y8=>(bif (!y8) then must (0≤(s5.1:Int)∧(s5.1:Int)<((s5.2.2.length:Nat):Int)) <| must (inI (s5.1+1)) <| must (inI (s5.2.1+1)) <| k5 ((s5.1+1),(s5.2.1+1),(s5.2.2.set (s5.1).toNat (s5.2.2.getD (s5.2.1).toNat default))) else must (inI (s5.2.1+1)) <| k5 (s5.1,(s5.2.1+1),s5.2.2)) else must (0<s5.2.2.length∧0≤(s5.1:Int)∧(s5.1:Int)≤((s5.2.2.length:Nat):Int)) <| must (0<(zbA s5.2.2 ((s5.1).toNat) (s5.2.2.length - (s5.1).toNat) (fun _=>(⟨0,0,0,false,0,0⟩:Look))).length∧0≤(s5.1:Int)∧(s5.1:Int)≤(((zbA s5.2.2 ((s5.1).toNat) (s5.2.2.length - (s5.1).toNat) (fun _=>(⟨0,0,0,false,0,0⟩:Look))).length:Nat):Int)) <| some ((zbA s5.2.2 ((s5.1).toNat) (s5.2.2.length - (s5.1).toNat) (fun _=>(⟨0,0,0,false,0,0⟩:Look))).take ((s5.1).toNat)))) fuel (y1,(y1+1),p0)))
def zdt (p0:Look) (c0:Int) (c1:Wear):Option Bool:=
 zam ((bif (!(!(zap p0.Known p0.Until c0))) then zb0 c1 p0.Lamp p0.Night c0 else some default)) fun y1=>some ((!(zap p0.Known p0.Until c0)) || (decide (y1<0)))
def ze4 (fuel:Nat) (p0:Wear) (p1:Int):Option (List Look):=
 zam (zbE p0.Looks) fun y1=>zam (zcP fuel y1 (fun x0=>zdt x0 p1 p0)) fun y3=>some y3
def zdL (p0:(List Look)) (p1:Int) (p2:Int):Option (List Look):=
 must (0≤(p1:Int)∧(p1:Int)≤p2∧(p2:Int)≤((p0.length:Nat):Int)∧(((p0.length:Nat):Int):Int)≤((p0.length:Nat):Int)) <| (bif (decide (p1=p2)) then some p0 else must (0<p0.length∧0≤(p1:Int)∧(p1:Int)≤((p0.length:Nat):Int)) <| must (0<p0.length∧0≤(p2:Int)∧(p2:Int)≤((p0.length:Nat):Int)) <| must ((p1).toNat≤(p2).toNat) <| must (0≤((((p0.take ((p1).toNat)++p0.drop ((p2).toNat)).length:Nat):Int):Int)∧((((p0.take ((p1).toNat)++p0.drop ((p2).toNat)).length:Nat):Int):Int)≤((p0.length:Nat):Int)∧(((p0.length:Nat):Int):Int)≤((p0.length:Nat):Int)) <| some (p0.take ((p1).toNat)++p0.drop ((p2).toNat)))
def zhb (p0:(List Look)) (p1:Int):Option (List Look):=
 zam (zbE p0) fun y1=>must (inI (p1+1)) <| zam (zdL y1 p1 (p1+1)) fun y4=>some y4
def zf8 (fuel:Nat) (p0:Wear) (p1:Int):Option ((List Int)×Int):=
 zam (zbZ p0 ([p1]:List Int)) fun y1=>(bif (!decide (y1=0)) then some ([],y1) else zam (ze4 fuel p0 p1) fun y4=>zam (zcy fuel p0 y4 p1) fun y6=>zam (zaR y6) fun y8=>(bif y8 then some ([],3) else must (inI (((y4.length:Nat):Int) - 1)) <| (loopGo (fun (s12:Int×(List Look)) k12=>(bif (decide (0≤s12.1)) then zam (zhb s12.2 s12.1) fun y14=>zam (zcy fuel p0 y14 p1) fun y16=>zam (zaR y16) fun y18=>(bif (!y18) then must (inI (s12.1 - 1)) <| k12 ((s12.1 - 1),y14) else must (inI (s12.1 - 1)) <| k12 ((s12.1 - 1),s12.2)) else (zaq (fun i23 (s23:(List Int)) k23=>must (room (s23++([(s12.2.getD i23 default).Source]:List Int)).length 8) <| k23 (s23++([(s12.2.getD i23 default).Source]:List Int))) (fun (s23:(List Int))=>some (s23,0)) s12.2.length 0 ([]:List Int)))) fuel ((((y4.length:Nat):Int) - 1),y4))))
def zcV (fuel:Nat) (p0:(List Int)) (p1:(List Int)):Option Bool:=
 (loopGo (fun (s1:Bool×Int) k1=>(bif ((decide (s1.2<((p0.length:Nat):Int))) && s1.1) then must (0≤(s1.2:Int)∧(s1.2:Int)<((p0.length:Nat):Int)) <| must (0≤(s1.2:Int)∧(s1.2:Int)<((p1.length:Nat):Int)) <| must (inI (s1.2+1)) <| k1 ((decide ((p0.getD (s1.2).toNat default)=(p1.getD (s1.2).toNat default))),(s1.2+1)) else some s1.1)) fuel ((decide (((p0.length:Nat):Int)=((p1.length:Nat):Int))),0))
def zdi (fuel:Nat) (post:Bool→Option Unit):Option Unit:=
 zam (zh7 fuel (zai) 10 2 5) fun y1=>zam (zhc fuel (zai) 1 5) fun y3=>zam (zc0 fuel (zai) 10 2 4) fun y5=>zam (zc0 fuel (zai) 10 1 5) fun y7=>zam (zgC fuel (zai) ([10,11,12]:List Int) 2 4) fun y9=>zam (zgC fuel (zai) ([10,11,12]:List Int) 2 5) fun y11=>zct fuel (zai) ([10,11,12]:List Int) 2 4 0 false (fun y13=>zam (zfD fuel (zai) (⟨24,10,3,false,0,0⟩:Look)) fun y14=>zam (zf8 fuel y14.1 5) fun y16=>zam ((bif ((((((((((((decide (y1.2=0)) && (decide (y3.2=0))) && (decide (y5.2=0))) && (decide (y7.2=0))) && (decide (y9.2=0))) && (decide (y11.2=0))) && (decide (y13.2=0))) && (decide (y14.2=0))) && (decide (y16.2=0))) && (((((decide (y1.1.Lo=1300)) && (decide (y1.1.Hi=1600))) && ((decide (y3.1.Lo=1000)) && (decide (y3.1.Hi=1599)))) && ((decide (y9.1.Lo=0)) && (decide (y9.1.Hi=2)))) && ((decide (y11.1.Lo=1)) && (decide (y11.1.Hi=2))))) && (decide (y5.1=2))) && (decide (y7.1=0))) then zcV fuel y13.1 ([10]:List Int) else some default)) fun y18=>zam ((bif (((((((((((((decide (y1.2=0)) && (decide (y3.2=0))) && (decide (y5.2=0))) && (decide (y7.2=0))) && (decide (y9.2=0))) && (decide (y11.2=0))) && (decide (y13.2=0))) && (decide (y14.2=0))) && (decide (y16.2=0))) && (((((decide (y1.1.Lo=1300)) && (decide (y1.1.Hi=1600))) && ((decide (y3.1.Lo=1000)) && (decide (y3.1.Hi=1599)))) && ((decide (y9.1.Lo=0)) && (decide (y9.1.Hi=2)))) && ((decide (y11.1.Lo=1)) && (decide (y11.1.Hi=2))))) && (decide (y5.1=2))) && (decide (y7.1=0))) && y18) then zcV fuel y16.1 ([22,24]:List Int) else some default)) fun y20=>post ((((((((((((((decide (y1.2=0)) && (decide (y3.2=0))) && (decide (y5.2=0))) && (decide (y7.2=0))) && (decide (y9.2=0))) && (decide (y11.2=0))) && (decide (y13.2=0))) && (decide (y14.2=0))) && (decide (y16.2=0))) && (((((decide (y1.1.Lo=1300)) && (decide (y1.1.Hi=1600))) && ((decide (y3.1.Lo=1000)) && (decide (y3.1.Hi=1599)))) && ((decide (y9.1.Lo=0)) && (decide (y9.1.Hi=2)))) && ((decide (y11.1.Lo=1)) && (decide (y11.1.Hi=2))))) && (decide (y5.1=2))) && (decide (y7.1=0))) && y18) && y20))
def zdQ (fuel:Nat):Option Bool:=zhZ (zdi fuel)
def zaB (p0:Int) (p1:Int) (p2:Int):Bool:=
 ((decide (p1≤p0)) && (decide (p0≤p2)))
def zbg (p0:Batch):Int:=
 (bif (((!(zaB p0.Id 1 99)) || (!(zaB p0.Life.Lo 0 p0.Life.Hi))) || (decide (1000000<p0.Life.Hi))) then 60 else 0)
def zbT (p0:Wear):Option Wear:=
 must (room (([]:List Batch)++p0.Batches).length 24) <| must (room (([]:List Mantle)++p0.Mantles).length 48) <| must (room (([]:List Burn)++p0.Burns).length 56) <| must (room (([]:List Look)++p0.Looks).length 48) <| some (⟨(([]:List Batch)++p0.Batches),(([]:List Mantle)++p0.Mantles),(([]:List Burn)++p0.Burns),(([]:List Look)++p0.Looks)⟩:Wear)
def zar (p0:Int) (p1:Int):Option Int:=
 must ((p1:Int)≠0) <| must (inI ((Int.tmod p0 p1)+p1)) <| must ((p1:Int)≠0) <| some (Int.tmod ((Int.tmod p0 p1)+p1) p1)
def zbS (p0:(List Int)) (p1:Int):Option Int:=
 (bif (decide (((p0.length:Nat):Int)=0)) then some 0 else must ((((p0.length:Nat):Int):Int)≠0) <| must (0≤((Int.tmod p1 ((p0.length:Nat):Int)):Int)∧((Int.tmod p1 ((p0.length:Nat):Int)):Int)<((p0.length:Nat):Int)) <| some (p0.getD ((Int.tmod p1 ((p0.length:Nat):Int))).toNat default))
def zcf (fuel:Nat) (p0:gasolierref06_Raw) (p1:(List Int)):Option (Wear×Lives):=
 (loopGo (fun (s1:Int×(List Batch)×(List Int)) k1=>(bif (((decide (s1.1<((p0.Batches.length:Nat):Int))) && (decide (s1.1<2))) || (decide (s1.1=0))) then (zib (fun (k3:(Arr2 Int)→_)=>(bif (decide (s1.1<((p0.Batches.length:Nat):Int))) then must (0≤(s1.1:Int)∧(s1.1:Int)<((p0.Batches.length:Nat):Int)) <| k3 (p0.Batches.getD (s1.1).toNat default) else k3 (⟨40,60⟩:(Arr2 Int)))) (fun (s3:(Arr2 Int))=>zam (zar s3.x0 120) fun y4=>must (inI (s1.1+1)) <| zam (zar s3.x1 90) fun y7=>must (inI (y4+y7)) <| must (room (s1.2.1++([(⟨(s1.1+1),(⟨y4,(y4+y7)⟩:Range)⟩:Batch)]:List Batch)).length 24) <| zam (zbS p1 s1.1) fun y11=>must (inI ((y4+y7) - y4)) <| must (inI (((y4+y7) - y4)+1)) <| zam (zar y11 (((y4+y7) - y4)+1)) fun y15=>must (inI (y4+y15)) <| must (room (s1.2.2++([(y4+y15)]:List Int)).length 8) <| must (inI (s1.1+1)) <| k1 ((s1.1+1),(s1.2.1++([(⟨(s1.1+1),(⟨y4,(y4+y7)⟩:Range)⟩:Batch)]:List Batch)),(s1.2.2++([(y4+y15)]:List Int))))) else (loopGo (fun (s22:Int×(List Mantle)) k22=>(bif ((decide (s22.1<((p0.Mantles.length:Nat):Int))) && (decide (s22.1<7))) then must (0≤(s22.1:Int)∧(s22.1:Int)<((p0.Mantles.length:Nat):Int)) <| must (inI (1+s22.1)) <| zam (zar ((p0.Mantles.getD (s22.1).toNat default).x0) 5) fun y26=>must (inI (1+y26)) <| zam (zar ((p0.Mantles.getD (s22.1).toNat default).x1) ((s1.2.1.length:Nat):Int)) fun y29=>must (inI (1+y29)) <| zam (zar ((p0.Mantles.getD (s22.1).toNat default).x2) 6) fun y32=>zam (zar ((p0.Mantles.getD (s22.1).toNat default).x3) 8) fun y34=>must (room (s22.2++([(⟨(1+s22.1),(1+y26),(1+y29),y32,y34,0⟩:Mantle)]:List Mantle)).length 48) <| must (inI (s22.1+1)) <| k22 ((s22.1+1),(s22.2++([(⟨(1+s22.1),(1+y26),(1+y29),y32,y34,0⟩:Mantle)]:List Mantle))) else (loopGo (fun (s38:Int×(List Burn)×(List Int)) k38=>(bif ((decide (s38.1<((p0.Burns.length:Nat):Int))) && (decide (s38.1<14))) then must (0≤(s38.1:Int)∧(s38.1:Int)<((p0.Burns.length:Nat):Int)) <| zam (zar ((p0.Burns.getD (s38.1).toNat default).x2) 40) fun y41=>must (inI (20+s38.1)) <| zam (zar ((p0.Burns.getD (s38.1).toNat default).x0) 5) fun y44=>must (inI (1+y44)) <| zam (zar ((p0.Burns.getD (s38.1).toNat default).x1) 10) fun y47=>zam (zar ((p0.Burns.getD (s38.1).toNat default).x3) 30) fun y49=>must (inI (y41+y49)) <| zam (zar ((p0.Burns.getD (s38.1).toNat default).x4) 12) fun y52=>must (room (s38.2.1++([(⟨(20+s38.1),(1+y44),y47,(⟨y41,(y41+y49)⟩:Range),y52,0⟩:Burn)]:List Burn)).length 56) <| must (inI (s38.1+2)) <| zam (zbS p1 (s38.1+2)) fun y56=>must (inI ((y41+y49) - y41)) <| must (inI (((y41+y49) - y41)+1)) <| zam (zar y56 (((y41+y49) - y41)+1)) fun y60=>must (inI (y41+y60)) <| must (room (s38.2.2++([(y41+y60)]:List Int)).length 8) <| must (inI (s38.1+1)) <| k38 ((s38.1+1),(s38.2.1++([(⟨(20+s38.1),(1+y44),y47,(⟨y41,(y41+y49)⟩:Range),y52,0⟩:Burn)]:List Burn)),(s38.2.2++([(y41+y60)]:List Int))) else (loopGo (fun (s65:Int×(List Look)) k65=>(bif ((decide (s65.1<((p0.Looks.length:Nat):Int))) && (decide (s65.1<6))) then must (0≤(s65.1:Int)∧(s65.1:Int)<((p0.Looks.length:Nat):Int)) <| must (inI (50+s65.1)) <| zam (zar ((p0.Looks.getD (s65.1).toNat default).x0) 5) fun y69=>must (inI (1+y69)) <| zam (zar ((p0.Looks.getD (s65.1).toNat default).x1) 10) fun y72=>zam (zar ((p0.Looks.getD (s65.1).toNat default).x2) 2) fun y74=>zam (zar ((p0.Looks.getD (s65.1).toNat default).x3) 12) fun y76=>must (room (s65.2++([(⟨(50+s65.1),(1+y69),y72,(decide (y74=1)),y76,0⟩:Look)]:List Look)).length 48) <| must (inI (s65.1+1)) <| k65 ((s65.1+1),(s65.2++([(⟨(50+s65.1),(1+y69),y72,(decide (y74=1)),y76,0⟩:Look)]:List Look))) else some ((⟨s1.2.1,s22.2,s38.2.1,s65.2⟩:Wear),(⟨s1.2.2,s38.2.2⟩:Lives)))) fuel (0,([]:List Look))))) fuel (0,([]:List Burn),([]:List Int))))) fuel (0,([]:List Mantle))))) fuel (0,([]:List Batch),([]:List Int)))
def zaE (p0:Int) (p1:Int) (p2:Int):Bool:=
 ((decide (p0≤p2)) && ((decide (p1=0)) || (decide (p2<p1))))
def zbV (fuel:Nat) (p0:Wear) (p1:Int) (p2:Int) (p3:Int):Option (Mantle×Bool):=
 (loopGo (fun (s1:Bool×Int×Mantle) k1=>(bif (decide (s1.2.1<((p0.Mantles.length:Nat):Int))) then must (0≤(s1.2.1:Int)∧(s1.2.1:Int)<((p0.Mantles.length:Nat):Int)) <| (bif ((((decide ((p0.Mantles.getD (s1.2.1).toNat default).Lamp=p1)) && (decide ((p0.Mantles.getD (s1.2.1).toNat default).Night≤p2))) && (zaE ((p0.Mantles.getD (s1.2.1).toNat default).Known) ((p0.Mantles.getD (s1.2.1).toNat default).Until) p3)) && ((!s1.1) || (decide (s1.2.2.Night≤(p0.Mantles.getD (s1.2.1).toNat default).Night)))) then must (inI (s1.2.1+1)) <| k1 (true,(s1.2.1+1),(p0.Mantles.getD (s1.2.1).toNat default)) else must (inI (s1.2.1+1)) <| k1 (s1.1,(s1.2.1+1),s1.2.2)) else some (s1.2.2,s1.1))) fuel (false,0,(⟨0,0,0,0,0,0⟩:Mantle)))
def zbM (fuel:Nat) (p0:Wear) (p1:Int):Option (List Bool):=
 (loopGo (fun (s1:Int×(List Bool)) k1=>(bif (decide (s1.1<((p0.Burns.length:Nat):Int))) then must (0≤(s1.1:Int)∧(s1.1:Int)<((p0.Burns.length:Nat):Int)) <| zam (zbV fuel p0 ((p0.Burns.getD (s1.1).toNat default).Lamp) ((p0.Burns.getD (s1.1).toNat default).Night) p1) fun y4=>must (inI (s1.1+1)) <| (loopGo (fun (s7:Int×Bool) k7=>(bif (decide (s7.1<((p0.Burns.length:Nat):Int))) then must (0≤(s7.1:Int)∧(s7.1:Int)<((p0.Burns.length:Nat):Int)) <| must (inI (s7.1+1)) <| k7 ((s7.1+1),(s7.2 && (((!decide ((p0.Burns.getD (s7.1).toNat default).Lamp=(p0.Burns.getD (s1.1).toNat default).Lamp)) || (!decide ((p0.Burns.getD (s7.1).toNat default).Night=(p0.Burns.getD (s1.1).toNat default).Night))) || (!(zaE ((p0.Burns.getD (s7.1).toNat default).Known) ((p0.Burns.getD (s7.1).toNat default).Until) p1))))) else must (room (s1.2++([s7.2]:List Bool)).length 1) <| must (inI (s1.1+1)) <| k1 ((s1.1+1),(s1.2++([s7.2]:List Bool))))) fuel ((s1.1+1),(y4.2 && (zaE ((p0.Burns.getD (s1.1).toNat default).Known) ((p0.Burns.getD (s1.1).toNat default).Until) p1)))) else some s1.2)) fuel (0,([]:List Bool)))
def zb6 (fuel:Nat) (p0:Wear) (p1:Lives) (p2:gasolierref06_When):Option Bool:=
 zam (zbV fuel p0 p2.Lamp p2.Night p2.Known) fun y1=>zam (zbM fuel p0 p2.Known) fun y3=>(loopGo (fun (s5:Int×Int) k5=>(bif (decide (s5.2<((p0.Burns.length:Nat):Int))) then must (0≤(s5.2:Int)∧(s5.2:Int)<((p0.Burns.length:Nat):Int)) <| must (0≤(s5.2:Int)∧(s5.2:Int)<((y3.length:Nat):Int)) <| (bif (((y3.getD (s5.2).toNat default) && (decide ((p0.Burns.getD (s5.2).toNat default).Lamp=p2.Lamp))) && (zaB ((p0.Burns.getD (s5.2).toNat default).Night) y1.1.Night p2.Night)) then must (0≤(s5.2:Int)∧(s5.2:Int)<((p1.Minutes.length:Nat):Int)) <| must (inI (s5.1+(p1.Minutes.getD (s5.2).toNat default))) <| must (inI (s5.2+1)) <| k5 ((s5.1+(p1.Minutes.getD (s5.2).toNat default)),(s5.2+1)) else must (inI (s5.2+1)) <| k5 (s5.1,(s5.2+1))) else (loopGo (fun (s14:Int) k14=>(bif (decide (s14<((p0.Batches.length:Nat):Int))) then must (0≤(s14:Int)∧(s14:Int)<((p0.Batches.length:Nat):Int)) <| (bif (decide ((p0.Batches.getD (s14).toNat default).Id=y1.1.Batch)) then must ((y1.2=true→(0≤(s14:Int)∧(s14:Int)<((p1.Lives.length:Nat):Int)))) <| some (y1.2 && (decide ((p1.Lives.getD (s14).toNat default)<s5.1))) else must (inI (s14+1)) <| k14 (s14+1)) else some false)) fuel 0))) fuel (0,0))
def zb7 (fuel:Nat) (p0:Wear) (p1:Lives) (p2:Int):Option Wear:=
 zam (zbT p0) fun y1=>(loopGo (fun (s3:Int×(List Look)) k3=>(bif (decide (s3.1<((s3.2.length:Nat):Int))) then must (0≤(s3.1:Int)∧(s3.1:Int)<((s3.2.length:Nat):Int)) <| zam (zb6 fuel p0 p1 (⟨(s3.2.getD (s3.1).toNat default).Lamp,(s3.2.getD (s3.1).toNat default).Night,p2⟩:gasolierref06_When)) fun y6=>must (0≤(s3.1:Int)∧(s3.1:Int)<((s3.2.length:Nat):Int)) <| must (inI (s3.1+1)) <| k3 ((s3.1+1),(s3.2.set (s3.1).toNat (⟨(s3.2.getD (s3.1).toNat default).Source,(s3.2.getD (s3.1).toNat default).Lamp,(s3.2.getD (s3.1).toNat default).Night,y6,(s3.2.getD (s3.1).toNat default).Known,(s3.2.getD (s3.1).toNat default).Until⟩:Look))) else some (⟨y1.Batches,y1.Mantles,y1.Burns,s3.2⟩:Wear))) fuel (0,y1.Looks))
def zcg (fuel:Nat) (p0:Wear) (p1:Int) (p2:Int):Option (List Int):=
 (loopGo (fun (s1:Int×(List Int)) k1=>(bif (decide (s1.1≤5)) then zam (zbV fuel p0 s1.1 p1 p2) fun y3=>(bif y3.2 then must (room (s1.2++([s1.1]:List Int)).length 8) <| must (inI (s1.1+1)) <| k1 ((s1.1+1),(s1.2++([s1.1]:List Int))) else must (inI (s1.1+1)) <| k1 ((s1.1+1),s1.2)) else some s1.2)) fuel (1,([]:List Int)))
def zei (fuel:Nat) (p0:Wear) (p1:(List Int)) (p2:Int) (p3:Int) (p4:Int):Option (Int×Int):=
 zam (zbK fuel p0 p1 p2 p3 p4) fun y1=>(bif (!decide (y1.2=0)) then some (0,y1.2) else zam (za8 y1.1) fun y4=>some ((zaG y4 p4),0))
def cmp_Less_int (p0:Int) (p1:Int):Bool:=
 (((cmp_isNaN_int p0) && (!(cmp_isNaN_int p1))) || (decide (p0<p1)))
def zbU (p0:Int):Bool:=
 (!decide (p0=p0))
def zbl (fuel:Nat) (p0:(List Int)) (p1:Int):Option (Int×Bool):=
 (loopGo (fun (s1:Int×Int) k1=>(bif (decide (s1.1<s1.2)) then must (inI (s1.1+s1.2)) <| must (inU (s1.1+s1.2)) <| must (inI (Int.fdiv (s1.1+s1.2) (2 ^ (1:Int).toNat))) <| must (0≤((Int.fdiv (s1.1+s1.2) (2 ^ (1:Int).toNat)):Int)∧((Int.fdiv (s1.1+s1.2) (2 ^ (1:Int).toNat)):Int)<((p0.length:Nat):Int)) <| (bif (cmp_Less_int (p0.getD ((Int.fdiv (s1.1+s1.2) (2 ^ (1:Int).toNat))).toNat default) p1) then must (inI ((Int.fdiv (s1.1+s1.2) (2 ^ (1:Int).toNat))+1)) <| k1 (((Int.fdiv (s1.1+s1.2) (2 ^ (1:Int).toNat))+1),s1.2) else k1 (s1.1,(Int.fdiv (s1.1+s1.2) (2 ^ (1:Int).toNat)))) else must (((decide (s1.1<((p0.length:Nat):Int)))=true→(0≤(s1.1:Int)∧(s1.1:Int)<((p0.length:Nat):Int)))) <| must ((((decide (s1.1<((p0.length:Nat):Int))) && !(decide ((p0.getD (s1.1).toNat default)=p1)))=true→(0≤(s1.1:Int)∧(s1.1:Int)<((p0.length:Nat):Int)))) <| some (s1.1,((decide (s1.1<((p0.length:Nat):Int))) && ((decide ((p0.getD (s1.1).toNat default)=p1)) || ((zbU (p0.getD (s1.1).toNat default)) && (zbU p1))))))) fuel (0,((p0.length:Nat):Int)))
def zdq (p0:(List Int)) (p1:Int):Option Int:=
 (zaq (fun i1 (s1:Unit) k1=>(bif (decide (p1=(p0.getD i1 default))) then some (i1:Int) else k1 ())) (fun (s1:Unit)=>some (-1)) p0.length 0 ())
def zb4 (p0:(List Int)) (p1:Int):Option Bool:=
 zam (zdq p0 p1) fun y1=>some (decide (0≤y1))
def zbR (fuel:Nat) (p0:Wear) (p1:(List Int)) (p2:Int) (p3:Int) (p4:Int) (p5:Bool) (p6:(List Int)):Option Int:=
 zam (zbK fuel p0 p1 p2 p3 p4) fun y1=>(bif (!decide (y1.2=0)) then some y1.2 else zam (za7 y1.1) fun y4=>(zaq (fun i6 (s6:(List Int)) k6=>zam (zbl fuel p1 (p6.getD i6 default)) fun y8=>must ((((!(!y8.2)) && (decide (0<(i6:Int))))=true→(inI ((i6:Int) - 1)))) <| must ((((!(!y8.2)) && (decide (0<(i6:Int))))=true→(0≤(((i6:Int) - 1):Int)∧(((i6:Int) - 1):Int)<((p6.length:Nat):Int)))) <| zam ((bif (!((!y8.2) || ((decide (0<(i6:Int))) && (decide ((p6.getD i6 default)≤(p6.getD (((i6:Int) - 1)).toNat default)))))) then zb4 y4 y8.1 else some default)) fun y12=>(bif (((!y8.2) || ((decide (0<(i6:Int))) && (decide ((p6.getD i6 default)≤(p6.getD (((i6:Int) - 1)).toNat default))))) || (!y12)) then some 63 else must (room (s6++([y8.1]:List Int)).length 8) <| k6 (s6++([y8.1]:List Int)))) (fun (s6:(List Int))=>zam (zbc y1.1 s6 p4 p5) fun y16=>(bif (!y16) then some 63 else some 0)) p6.length 0 ([]:List Int)))
def zba (fuel:Nat) (p0:gasolierref06_Raw) (p1:(List Int)) (p2:(Arr4 Int)) (post:Bool→Option Unit):Option Unit:=
 zam (zdQ 20000) fun y1=>zam (zar p2.x0 11) fun y3=>zam (zar p2.x1 13) fun y5=>zam (zar p2.x2 5) fun y7=>zam (zcf fuel p0 p1) fun y9=>zam (zb7 fuel y9.1 y9.2 y5) fun y11=>zam (zcg fuel y11 y3 y5) fun y13=>(bif ((!y1) || (decide (((y13.length:Nat):Int)=0))) then post y1 else zam (zei fuel y11 y13 y3 y5 y7) fun y16=>(bif (!decide (y16.2=0)) then post false else (loopGo (fun (s19:Int) k19=>(bif (decide (s19<2)) then (zib (fun (k21:Unit→_)=>zct fuel y11 y13 y3 y5 y7 (decide (s19=1)) (fun y23=>(bif (((decide (s19=1)) && (decide (y16.1=0))) || ((!(decide (s19=1))) && (decide (y16.1=1)))) then (bif (!decide (y23.2=3)) then post false else k21 ()) else zam ((bif (!(!decide (y23.2=0))) then zbR fuel y11 y13 y3 y5 y7 (decide (s19=1)) y23.1 else some default)) fun y26=>(bif (((!decide (y23.2=0)) || (!decide (y26=0))) || (!((decide (((y23.1.length:Nat):Int)=0)) == (!decide (y16.1=2))))) then post false else (loopGo (fun (s29:Int×(List Int)) k29=>(bif (decide (s29.1<((y13.length:Nat):Int))) then must (0≤(s29.1:Int)∧(s29.1:Int)<((y13.length:Nat):Int)) <| zam (zc0 fuel y11 (y13.getD (s29.1).toNat default) y3 y5) fun y32=>(bif (!decide (y32.2=0)) then post false else must (((decide (y32.1=2))=true→(0≤(s29.1:Int)∧(s29.1:Int)<64))) <| must ((((decide (y32.1=2)) && (decide ((andI (Int.fdiv p2.x3 (2 ^ (s29.1:Int).toNat)) 1)=1)))=true→(inI (((s29.2.length:Nat):Int)+1)))) <| (bif (((decide (y32.1=2)) && (decide ((andI (Int.fdiv p2.x3 (2 ^ (s29.1:Int).toNat)) 1)=1))) && (decide ((((s29.2.length:Nat):Int)+1)<((y23.1.length:Nat):Int)))) then must (0≤(s29.1:Int)∧(s29.1:Int)<((y13.length:Nat):Int)) <| must (room (s29.2++([(y13.getD (s29.1).toNat default)]:List Int)).length 8) <| must (inI (s29.1+1)) <| k29 ((s29.1+1),(s29.2++([(y13.getD (s29.1).toNat default)]:List Int))) else must (inI (s29.1+1)) <| k29 ((s29.1+1),s29.2))) else zam ((bif (decide (((s29.2.length:Nat):Int)<((y23.1.length:Nat):Int))) then zbR fuel y11 y13 y3 y5 y7 (decide (s19=1)) s29.2 else some default)) fun y42=>(bif ((decide (((s29.2.length:Nat):Int)<((y23.1.length:Nat):Int))) && (!decide (y42=63))) then post false else k21 ()))) fuel (0,([]:List Int))))))) (fun (s21:Unit)=>must (inI (s19+1)) <| k19 (s19+1))) else post true)) fuel 0)))
def zbr (fuel:Nat) (p0:gasolierref06_Raw) (p1:(List Int)) (p2:(Arr4 Int)):Option Bool:=zhZ (zba fuel p0 p1 p2)
end Go.Sp
end
