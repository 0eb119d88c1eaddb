/- Texts of the framework, or of the plain law, one behind another. -/
import Derived.Test.YtakjeajlmlmkeaaGreatFr2
import Derived.CallsIn
import Derived.OrdersIn
import Derived.RangeFuncLeaves
import Derived.RangeFuncRecord
import Derived.RangeFuncOwn
import Derived.Conc.MuLone
import Derived.Test.YtakjeajlmlmkeaaGreatFr1
import Derived.Scope
/- Calls: what a call is handed; contracts; the call of a Go function. -/
section
set_option linter.all false
namespace Go.Av
theorem za0 {ids:List Nat}:∀ {cs:List AV} {i:Nat} {c:AV},zde ids cs=true→cs[i]? = some c→zay ids c=true
 | [],i,c,_,h=>by simp at h
 | x::cs,0,c,hc,h=>by
  simp only [zde] at hc
  split at hc
  · rename_i h1;simp at h;rw [← h];exact h1
  · cases hc
 | x::cs,i+1,c,hc,h=>by
  simp only [zde] at hc
  simp only [List.getElem?_cons_succ] at h
  split at hc
  · exact za0 hc h
  · cases hc
theorem zaz:∀ {l:List Nat} {t:Nat},zbc l t=true→t∈l
 | k::l,t,h=>by
  unfold zbc at h
  split at h
  · rename_i hb;have:=Nat.eq_of_beq_eq_true hb;subst this;exact List.mem_cons_self ..
  · exact List.mem_cons_of_mem _ (zaz h)
theorem Rel.forget {h:Hp} {ρ ρ':Rho} {ids:List Nat} (hρ:∀ id,id∈ids→ρ' id=ρ id) {a:AV} {v:Value} (H:Rel h ρ a v) (hc:zay ids a=true):Rel h ρ' a v:=by
 obtain ⟨ρ1,he,H'⟩:∃ ρ1,ρ=ρ1∧Rel h ρ1 a v:=⟨ρ,rfl,H⟩
 clear H
 induction H' with
 | any ρ v=>exact .any _ _
 | one _ _ h1=>exact .one _ _ h1
 | nilS=>exact .nilS _
 | nilFn=>exact .nilFn _
 | nilPtr=>exact .nilPtr _
 | nilMap=>exact .nilMap _
 | nilIfc=>exact .nilIfc _
 | bool=>exact .bool _ _
 | int=>exact .int _ _ _
 | agg ρ1 cs vs hl hc' ih=>exact .agg _ _ _ hl fun i c v h1 h2=>ih i c v h1 h2 (za0 (by simpa [zay] using hc) h1) he
 | tup ρ1 cs vs hl hc' ih=>exact .tup _ _ _ hl fun i c v h1 h2=>ih i c v h1 h2 (za0 (by simpa [zay] using hc) h1) he
 | ro ρ1 sz n e a cap hnil hcap hsz hs h1 hc' ih=>exact .ro _ _ _ _ _ _ hnil hcap hsz hs h1 hc'
 | rp ρ1 cs ad hs hc' ih=>exact .rp _ _ _ hs hc'
 | lp ρ1 id off b hb=>subst he;exact .lp _ _ _ _ ((hρ id (zaz (by simpa [zay] using hc))).trans hb)
 | buf ρ1 id n n' sz v v' hb hle h1 hq=>subst he;exact .buf _ _ _ _ _ _ _ ((hρ id (zaz (by simpa [zay] using hc))).trans hb) hle h1 hq
 | ep ρ1 id n i off n' sz v v' hb hle h1 hq=>subst he;exact .ep _ _ _ _ _ _ _ _ _ ((hρ id (zaz (by simpa [zay] using hc))).trans hb) hle h1 hq
 | fn ρ1 f fs cs vs ws hl hm hc' hd ih1 ih2=>
  simp only [zay] at hc
  split at hc
  · rename_i h0
    exact .fn _ _ _ _ _ _ hl hm (fun i c v h1 h2=>ih1 i c v h1 h2 (za0 h0 h1) he) (fun i c v h1 h2=>ih2 i c v h1 h2 (za0 hc h1) he)
  · cases hc
 | clo ρ1 f fs cs v hv ih=>exact .clo _ _ _ _ _ hv
 | mp ρ1 id li b hb hm=>subst he;exact .mp _ _ _ _ ((hρ id (zaz (by simpa [zay] using hc))).trans hb) hm
 | romN ρ1 z dom e hdom hz=>exact .romN _ _ _ _ hdom hz
 | ns ρ1 b a v hv hn ih=>exact .ns _ _ _ _ (ih (by simpa [zay] using hc) he) hn
 | pin ρ1 hp a v hl hv ih=>exact .pin _ _ _ _ hl hv
 | rom ρ1 z dom e n r es clock ks hR hks hlen hel hk hborn hbd hdom hz hc' ihz ih=>exact .rom _ _ _ _ _ _ _ _ _ hR hks hlen hel hk hborn hbd hdom hz hc'
 | ifc ρ1 t a v hv ih=>exact .ifc _ _ _ _ (ih (by simpa [zay] using hc) he)
 | cnd ρ1 g a v ht hf ih=>exact .cnd _ _ _ _ (fun hg=>ih hg (by simpa [zay] using hc) he) hf
 | raw=>exact .raw _ _
 | nz ρ1 n b hb=>exact .nz _ _ _ hb
 | po ρ1 b cs v ht hf ih=>exact .po _ _ _ _ (fun hg=>ih hg rfl he) hf
 | gb ρ1 id n li v hb hg h0=>subst he;exact .gb _ _ _ _ _ ((hρ id (zaz (by simpa [zay] using hc))).trans hb) hg h0
 | gp ρ1 id n i li ad hb hg=>subst he;exact .gp _ _ _ _ _ _ ((hρ id (zaz (by simpa [zay] using hc))).trans hb) hg
 | gr' ρ1 id i m li v hb hg h0=>subst he;exact .gr' _ _ _ _ _ _ ((hρ id (zaz (by simpa [zay] using hc))).trans hb) hg h0
 | sb ρ1 id n a b n' sz v v' hb hle h0 hq=>subst he;exact .sb _ _ _ _ _ _ _ _ _ ((hρ id (zaz (by simpa [zay] using hc))).trans hb) hle h0 hq
 | ge ρ1 id i m j off li v hb h0 hg=>subst he;exact .ge _ _ _ _ _ _ _ _ ((hρ id (zaz (by simpa [zay] using hc))).trans hb) h0 hg
theorem zhu {k:Nat}:∀ (cs:List AV),(shL k cs).length=cs.length
 | []=>rfl
 | c::cs=>by simp [shL,zhu cs]
theorem zhv {k:Nat}:∀ {cs:List AV} {i:Nat} {c:AV},(shL k cs)[i]? = some c→∃ c0,cs[i]? = some c0∧c=c0.sh k
 | [],i,c,h=>by simp [shL] at h
 | x::cs,0,c,h=>by simp [shL] at h;exact ⟨x,by simp,h.symm⟩
 | x::cs,i+1,c,h=>by
  simp only [shL,List.getElem?_cons_succ] at h
  obtain ⟨c0,e1,e2⟩:=zhv h
  exact ⟨c0,by simpa using e1,e2⟩
theorem Rel.shift {h:Hp} {ρ ρ':Rho} {ids:List Nat} {k:Nat} (hρ:∀ id,id∈ids→ρ' (k+id)=ρ id) {a:AV} {v:Value} (H:Rel h ρ a v) (hc:zay ids a=true):Rel h ρ' (a.sh k) v:=by
 obtain ⟨ρ1,he,H'⟩:∃ ρ1,ρ=ρ1∧Rel h ρ1 a v:=⟨ρ,rfl,H⟩
 clear H
 induction H' with
 | any ρ v=>simp only [AV.sh];exact .any _ _
 | one _ _ h1=>simp only [AV.sh];exact .one _ _ h1
 | nilS=>simp only [AV.sh];exact .nilS _
 | nilFn=>simp only [AV.sh];exact .nilFn _
 | nilPtr=>simp only [AV.sh];exact .nilPtr _
 | nilMap=>simp only [AV.sh];exact .nilMap _
 | nilIfc=>simp only [AV.sh];exact .nilIfc _
 | bool=>simp only [AV.sh];exact .bool _ _
 | int=>simp only [AV.sh];exact .int _ _ _
 | agg ρ1 cs vs hl hc' ih=>
  simp only [AV.sh]
  refine .agg _ _ _ (by rw [zhu];exact hl) fun i c v h1 h2=>?_
  obtain ⟨c0,e1,rfl⟩:=zhv h1
  exact ih i c0 v e1 h2 (za0 (by simpa [zay] using hc) e1) he
 | tup ρ1 cs vs hl hc' ih=>
  simp only [AV.sh]
  refine .tup _ _ _ (by rw [zhu];exact hl) fun i c v h1 h2=>?_
  obtain ⟨c0,e1,rfl⟩:=zhv h1
  exact ih i c0 v e1 h2 (za0 (by simpa [zay] using hc) e1) he
 | ro ρ1 sz n e a cap hnil hcap hsz hs h1 hc' ih=>simp only [AV.sh];exact .ro _ _ _ _ _ _ hnil hcap hsz hs h1 hc'
 | rp ρ1 cs ad hs hc' ih=>simp only [AV.sh];exact .rp _ _ _ hs hc'
 | lp ρ1 id off b hb=>simp only [AV.sh];subst he;exact .lp _ _ _ _ ((hρ id (zaz (by simpa [zay] using hc))).trans hb)
 | buf ρ1 id n n' sz v v' hb hle h1 hq=>simp only [AV.sh];subst he;exact .buf _ _ _ _ _ _ _ ((hρ id (zaz (by simpa [zay] using hc))).trans hb) hle h1 hq
 | ep ρ1 id n i off n' sz v v' hb hle h1 hq=>simp only [AV.sh];subst he;exact .ep _ _ _ _ _ _ _ _ _ ((hρ id (zaz (by simpa [zay] using hc))).trans hb) hle h1 hq
 | fn ρ1 f fs cs vs ws hl hm hc' hd ih1 ih2=>
  simp only [zay] at hc
  split at hc
  · rename_i h0
    simp only [AV.sh]
    refine .fn _ _ _ _ _ _ (by rw [zhu];exact hl) (by rw [zhu];exact hm) (fun i c v h1 h2=>?_) (fun i c v h1 h2=>?_)
    · obtain ⟨c0,e1,rfl⟩:=zhv h1
      exact ih1 i c0 v e1 h2 (za0 h0 e1) he
    · obtain ⟨c0,e1,rfl⟩:=zhv h1
      exact ih2 i c0 v e1 h2 (za0 hc e1) he
  · cases hc
 | clo ρ1 f fs cs v hv ih=>simp only [AV.sh];exact .clo _ _ _ _ _ hv
 | mp ρ1 id li b hb hm=>simp only [AV.sh];subst he;exact .mp _ _ _ _ ((hρ id (zaz (by simpa [zay] using hc))).trans hb) hm
 | romN ρ1 z dom e hdom hz=>simp only [AV.sh];exact .romN _ _ _ _ hdom hz
 | ns ρ1 b a v hv hn ih=>simp only [AV.sh];exact .ns _ _ _ _ (ih (by simpa [zay] using hc) he) hn
 | pin ρ1 hp a v hl hv ih=>simp only [AV.sh];exact .pin _ _ _ _ hl hv
 | rom ρ1 z dom e n r es clock ks hR hks hlen hel hk hborn hbd hdom hz hc' ihz ih=>simp only [AV.sh];exact .rom _ _ _ _ _ _ _ _ _ hR hks hlen hel hk hborn hbd hdom hz hc'
 | ifc ρ1 t a v hv ih=>simp only [AV.sh];exact .ifc _ _ _ _ (ih (by simpa [zay] using hc) he)
 | cnd ρ1 g a v ht hf ih=>simp only [AV.sh];exact .cnd _ _ _ _ (fun hg=>ih hg (by simpa [zay] using hc) he) hf
 | raw=>simp only [AV.sh];exact .raw _ _
 | nz ρ1 n b hb=>simp only [AV.sh];exact .nz _ _ _ hb
 | po ρ1 b cs v ht hf ih=>simp only [AV.sh] at ih ⊢;exact .po _ _ _ _ (fun hg=>ih hg rfl he) hf
 | gb ρ1 id n li v hb hg h0=>simp only [AV.sh];subst he;exact .gb _ _ _ _ _ ((hρ id (zaz (by simpa [zay] using hc))).trans hb) hg h0
 | gp ρ1 id n i li ad hb hg=>simp only [AV.sh];subst he;exact .gp _ _ _ _ _ _ ((hρ id (zaz (by simpa [zay] using hc))).trans hb) hg
 | gr' ρ1 id i m li v hb hg h0=>simp only [AV.sh];subst he;exact .gr' _ _ _ _ _ _ ((hρ id (zaz (by simpa [zay] using hc))).trans hb) hg h0
 | sb ρ1 id n a b n' sz v v' hb hle h0 hq=>simp only [AV.sh];subst he;exact .sb _ _ _ _ _ _ _ _ _ ((hρ id (zaz (by simpa [zay] using hc))).trans hb) hle h0 hq
 | ge ρ1 id i m j off li v hb h0 hg=>simp only [AV.sh];subst he;exact .ge _ _ _ _ _ _ _ _ ((hρ id (zaz (by simpa [zay] using hc))).trans hb) h0 hg
theorem zbJ.shift {h:Hp} {ρ ρ':Rho} {ids:List Nat} {k:Nat} (hρ:∀ id,id∈ids→ρ' (k+id)=ρ id) {id:Nat} {x:Blk} {w:World} (H:zbJ h ρ id x w) (hid:id∈ids) (ho:zeh ids x=true):zbJ h ρ' (k+id) (x.sh k) w:=by
 cases x with
 | cells cs=>
  obtain ⟨b,vs,ty,q1,q2,q3,q4⟩:=H
  refine ⟨b,vs,ty,(hρ id hid).trans q1,q2,by rw [zhu];exact q3,fun i c v hc hv=>?_⟩
  obtain ⟨c0,e1,rfl⟩:=zhv hc
  exact (q4 i c0 v e1 hv).shift hρ (za0 (by simpa [zeh] using ho) e1)
 | buf ty sz n e=>
  obtain ⟨v,xs,q1,q2⟩:=H
  exact ⟨v,xs,(hρ id hid).trans q1,q2⟩
 | map z dom e n=>
  obtain ⟨b,es,clock,ks,q1,q2⟩:=H
  exact ⟨b,es,clock,ks,(hρ id hid).trans q1,q2⟩
 | bufk ty sz n c e=>
  obtain ⟨v,xs,q1,q2⟩:=H
  exact ⟨v,xs,(hρ id hid).trans q1,q2⟩
 | iter e cur Pl=>
  obtain ⟨b,bm,clock,c0,es,seen,left,q1,q2⟩:=H
  exact ⟨b,bm,clock,c0,es,seen,left,(hρ id hid).trans q1,q2⟩
 | dead=>
  obtain ⟨n,sz,q1⟩:=H
  exact ⟨n,sz,(hρ id hid).trans q1⟩
 | grid tS ty sz n m e=>
  obtain ⟨v,rows,q1,q2⟩:=H
  exact ⟨v,rows,(hρ id hid).trans q1,q2⟩
 | gmap ty sz n dom m e out=>exact H.zkh (fun a=>a.sh k) (hρ id hid) (fun j a v ha hr=>hr.shift hρ (by subst ha;exact ho))
 | rows ty sz hd dom m e out=>exact H.zj4 (fun a=>a.sh k) (hρ id hid) (fun j a v ha hr=>hr.shift hρ (by subst ha;exact ho))
open Classical in
noncomputable def hAll (h:Hp) (ρ:Rho) (w:World):Hp:=fun b=>if zcs ρ b then w.heap[b]? else h b
section
variable {P:Program} {N:Nat} {C:Ctx} {h:Hp} {ρ:Rho} {F:Fr} {M:Mm} {g:Nat} {a:Act} {w:World} {Γ:Tys} {mg:Mm} {o:Oper}
theorem InvH.zmL (I:InvH N C h ρ F M g a w):∀ b o,h b=some o→hAll h ρ w b=some o:=by
 intro b o hb
 unfold hAll
 split
 · rename_i hs
   obtain ⟨id,li,h1,h2⟩:=hs
   have:=(I.own id li b h1 h2).1
   rw [hb] at this;cases this
 · exact hb
theorem zmP {id:Nat} {li:LI} {b:Nat} (h1:ρ id=some li) (h2:li.owns b):hAll h ρ w b=w.heap[b]? := by
 unfold hAll
 rw [if_pos ⟨id,li,h1,h2⟩]
theorem InvH.zpQ (I:InvH N C h ρ F M g a w):∀ b o,hAll h ρ w b=some o→w.heap[b]? = some o:=by
 intro b o hb
 unfold hAll at hb
 split at hb
 · exact hb
 · exact I.hp b o hb
theorem zeQ:∀ {cs cs':List AV} {rd:List Nat} {c:Option Prop},zgu mg cs=some (cs',rd,c)→cs'.length=cs.length ∧
 ∀ (i:Nat) (x':AV),cs'[i]? = some x'→∃ x rd' c',cs[i]? = some x∧view mg x=some (x',rd',c')∧(∀ id,id∈rd'→id∈rd)∧((∀ q,c=some q→q)→∀ q,c'=some q→q)
 | [],cs',rd,c,hv=>by
  simp only [zgu] at hv;cases hv
  exact ⟨rfl,fun i x' hx=>by simp at hx⟩
 | y::ys,cs',rd,c,hv=>by
  simp only [zgu] at hv
  split at hv
  · rename_i y' r1 p1 hy
    split at hv
    · rename_i ys' r2 p2 hys
      cases hv
      obtain ⟨hl,hg⟩:=zeQ hys
      refine ⟨by simp [hl],fun i x' hx=>?_⟩
      cases i with
      | zero=>
       simp at hx;subst hx
       exact ⟨y,r1,p1,rfl,hy,fun id hid=>by simp [hid],fun H=>zhp H⟩
      | succ i=>
       simp only [List.getElem?_cons_succ] at hx
       obtain ⟨x,rd',c',h1,h2,h3,h4⟩:=hg i x' hx
       exact ⟨x,rd',c',by simpa using h1,h2,fun id hid=>by simp [h3 id hid],fun H=>h4 (zgt H)⟩
    · cases hv
  · cases hv
theorem zjx:∀ {cs cs':List AV} {rd:List Nat} {c:Option Prop},zjy mg cs=some (cs',rd,c)→cs'.length=cs.length ∧
 ∀ (i:Nat) (x':AV),cs'[i]? = some x'→∃ x rd' c',cs[i]? = some x∧zoY mg x=some (x',rd',c')∧(∀ id,id∈rd'→id∈rd)∧((∀ q,c=some q→q)→∀ q,c'=some q→q)
 | [],cs',rd,c,hv=>by
  simp only [zjy] at hv;cases hv
  exact ⟨rfl,fun i x' hx=>by simp at hx⟩
 | y::ys,cs',rd,c,hv=>by
  simp only [zjy] at hv
  split at hv
  · rename_i y' r1 p1 hy
    split at hv
    · rename_i ys' r2 p2 hys
      cases hv
      obtain ⟨hl,hg⟩:=zjx hys
      refine ⟨by simp [hl],fun i x' hx=>?_⟩
      cases i with
      | zero=>
       simp at hx;subst hx
       exact ⟨y,r1,p1,rfl,hy,fun id hid=>by simp [hid],fun H=>zhp H⟩
      | succ i=>
       simp only [List.getElem?_cons_succ] at hx
       obtain ⟨x,rd',c',h1,h2,h3,h4⟩:=hg i x' hx
       exact ⟨x,rd',c',by simpa using h1,h2,fun id hid=>by simp [h3 id hid],fun H=>h4 (zgt H)⟩
    · cases hv
  · cases hv
theorem zlI (I:InvH N C h ρ F M g a w) {H2:Hp} (hLe:Le h H2) {x:AV} {v:Value} (H:Rel h ρ x v) {x':AV} {rd:List Nat} {c:Option Prop} (hv:zoY mg x=some (x',rd,c)) (h1:∀ id,id∈rd→M id=mg id) (h2:∀ q,c=some q→q)
 (h3:∀ id,id∈rd→∀ li b,ρ id=some li→li.owns b→H2 b=w.heap[b]?):Rel H2 ρ0 x' v:=by
 unfold zoY at hv
 split at hv
 · rename_i id n
   cases H with
   | buf _ _ _ n' sz _ v' hb hle h0 he=>
   split at hv
   · rename_i ty sz2 n2 e hg
     cases hv
     obtain rfl:=h2 _ rfl
     obtain ⟨v0,us,e1,e2,e3,e5,e4⟩:=I.blk id _ ((h1 id (by simp)).trans hg)
     rw [hb] at e1;cases e1
     obtain rfl:=he rfl
     exact zdX e2 (fun b hb'=>h3 id (by simp) _ b hb hb') e3 e5 (fun i j c v hi hj hv=>(e4 i j c v hi hj hv).heap hLe)
   · cases hv
 · rename_i id
   cases H with
   | mp _ _ li b hb hmb=>
   split at hv
   · rename_i z dom e n hg
     cases hv
     obtain ⟨b',es,clock,ks,q1,q2,q3,q4,q5,q6,q7,q8,q9,qz,q10⟩:=I.blk id _ ((h1 id (by simp)).trans hg)
     rw [hb] at q1;cases q1;cases hmb
     exact .rom _ _ _ _ _ _ es clock ks ((h3 id (by simp) _ _ hb rfl).trans q2) q3 q4 q5 q6 q7 q8 q9 (fun k hd=>(qz k hd).heap hLe) (fun i k y e3 e4=>(q10 i k y e3 e4).heap hLe)
   · cases hv
 · split at hv
   · rename_i hcl
     cases hv
     exact (H.heap hLe).zdu hcl
   · cases hv
theorem zjw (I:InvH N C h ρ F M g a w) {H2:Hp} (hLe:Le h H2) {x:AV} {v:Value} (H:Rel h ρ x v):∀ {x':AV} {rd:List Nat} {c:Option Prop},view mg x=some (x',rd,c) →
 (∀ id,id∈rd→M id=mg id)→(∀ q,c=some q→q)→(∀ id,id∈rd→∀ li b,ρ id=some li→li.owns b→H2 b=w.heap[b]?)→Rel H2 ρ0 x' v:=by
 obtain ⟨h9,ρ1,hh,hρ,H'⟩:∃ h9 ρ1,h=h9∧ρ=ρ1∧Rel h9 ρ1 x v:=⟨h,ρ,rfl,rfl,H⟩
 clear H
 induction H' with
 | one _ _ h1=>
  intro x' rd c hv _ _ _
  simp only [view] at hv;cases hv;exact .one _ _ h1
 | any|nilS|nilFn|nilPtr|nilMap|nilIfc|bool|int|raw=>
  intro x' rd c hv _ _ _
  simp only [view] at hv;cases hv;constructor
 | agg ρ1 cs vs hl hc ih=>
  intro x' rd c hv h1 h2 h3
  simp only [view] at hv
  split at hv
  · rename_i cs' r p hvl
    cases hv
    obtain ⟨hl',hg⟩:=zeQ hvl
    refine .agg _ _ _ (by rw [hl,hl']) fun i y z hy hz=>?_
    obtain ⟨y0,rd',c',e1,e2,e3,e4⟩:=hg i y hy
    exact ih i y0 z e1 hz hh hρ e2 (fun id hid=>h1 id (e3 id hid)) (e4 h2) (fun id hid=>h3 id (e3 id hid))
  · cases hv
 | tup ρ1 cs vs hl hc ih=>
  intro x' rd c hv h1 h2 h3
  simp only [view] at hv
  split at hv
  · rename_i cs' r p hvl
    cases hv
    obtain ⟨hl',hg⟩:=zeQ hvl
    refine .tup _ _ _ (by rw [hl,hl']) fun i y z hy hz=>?_
    obtain ⟨y0,rd',c',e1,e2,e3,e4⟩:=hg i y hy
    exact ih i y0 z e1 hz hh hρ e2 (fun id hid=>h1 id (e3 id hid)) (e4 h2) (fun id hid=>h3 id (e3 id hid))
  · cases hv
 | fn ρ1 f fs cs vs ws hl hm' hc hd ih1 ih2=>
  intro x' rd c hv h1 h2 h3
  simp only [view] at hv
  split at hv
  · rename_i fs' r p hvl
    split at hv
    · rename_i cs' r2 p2 hvl2
      cases hv
      obtain ⟨hl1,hg1⟩:=zeQ hvl
      obtain ⟨hl2,hg2⟩:=zeQ hvl2
      refine .clo _ _ _ _ _ (.fn _ _ _ _ _ _ (by rw [hl,hl1]) (by rw [hm',hl2]) (fun i y z hy hz=>?_) (fun i y z hy hz=>?_))
      · obtain ⟨y0,rd',c',e1,e2,e3,e4⟩:=hg1 i y hy
        exact ih1 i y0 z e1 hz hh hρ e2 (fun id hid=>h1 id (by simp [e3 id hid])) (e4 (zhp h2)) (fun id hid=>h3 id (by simp [e3 id hid]))
      · obtain ⟨y0,rd',c',e1,e2,e3,e4⟩:=hg2 i y hy
        exact ih2 i y0 z e1 hz hh hρ e2 (fun id hid=>h1 id (by simp [e3 id hid])) (e4 (zgt h2)) (fun id hid=>h3 id (by simp [e3 id hid]))
    · cases hv
  · cases hv
 | clo ρ1 f fs cs v hv0 ih=>
  intro x' rd c hv _ _ _
  subst hh
  simp only [view] at hv;cases hv
  exact .clo _ _ _ _ _ (hv0.heap hLe)
 | ro ρ1 sz n e ad cap hnil hcap hsz hs h1 hc ih=>
  intro x' rd c hv _ _ _
  subst hh
  simp only [view] at hv;cases hv
  exact (Rel.ro ρ0 sz n e ad cap hnil hcap hsz hs h1 hc).heap hLe
 | rp ρ1 cs ad hs hc ih=>
  intro x' rd c hv _ _ _
  subst hh
  simp only [view] at hv;cases hv
  exact (Rel.rp ρ0 cs ad hs hc).heap hLe
 | rom ρ1 z dom e n r es clock ks hR hks hlen hel hk hborn hbd hdom hz hc ihz ih=>
  intro x' rd c hv _ _ _
  subst hh
  simp only [view] at hv;cases hv
  exact (Rel.rom ρ0 z dom e n r es clock ks hR hks hlen hel hk hborn hbd hdom hz hc).heap hLe
 | ifc ρ1 t x v hx ih=>
  intro x' rd c hv h1 h2 h3
  simp only [view] at hv
  split at hv
  · rename_i y r p hy
    cases hv
    exact .ifc _ _ _ _ (ih hh hρ hy h1 h2 h3)
  · cases hv
 | cnd=>intro x' rd c hv _ _ _;simp [view] at hv
 | ep=>intro x' rd c hv _ _ _;simp [view] at hv
 | romN ρ1 z dom e hdom hz=>
  intro x' rd c hv _ _ _
  subst hh
  simp only [view] at hv;cases hv;exact (Rel.romN _ _ _ _ hdom hz:Rel h ρ0 _ _).heap hLe
 | pin ρ1 hp0 a v hl hv0 ih=>
  intro x' rd c hv _ _ _
  subst hh
  simp only [view] at hv;cases hv;exact .pin _ _ _ _ (hl.trans hLe) hv0
 | ns ρ1 b a v hv0 hn ih=>
  intro x' rd c hv _ _ _
  subst hh
  simp only [view] at hv
  split at hv
  · rename_i hcl;cases hv;exact .ns _ _ _ _ ((hv0.zdu hcl).heap hLe) hn
  · cases hv
 | mp ρ1 id li b hb hmb=>
  intro x' rd c hv h1 h2 h3
  subst hρ;subst hh
  simp only [view] at hv
  split at hv
  · rename_i z dom e n hg
    cases hv
    obtain ⟨b',es,clock,ks,q1,q2,q3,q4,q5,q6,q7,q8,q9,qz,q10⟩:=I.blk id _ ((h1 id (by simp)).trans hg)
    rw [hb] at q1;cases q1;cases hmb
    exact .rom _ _ _ _ _ _ es clock ks ((h3 id (by simp) _ _ hb rfl).trans q2) q3 q4 q5 q6 q7 q8 q9 (fun k hd=>(qz k hd).heap hLe) (fun i k y e3 e4=>(q10 i k y e3 e4).heap hLe)
  · cases hv
 | lp ρ1 id off b hb=>
  intro x' rd c hv h1 h2 h3
  subst hρ;subst hh
  simp only [view] at hv
  cases hg:mg id with
  | none=>simp [hg] at hv
  | some bl=>
  cases bl <;> simp only [hg] at hv <;> (try (cases hv;done))
  rename_i cs
  cases hd:zdv off cs with
  | none=>simp [hd] at hv
  | some r=>
  simp only [hd] at hv
  cases hcl:zjy mg r with
  | none=>simp [hcl] at hv
  | some q=>
  obtain ⟨r',rd',c'⟩:=q
  simp only [hcl] at hv
  cases hv
  obtain ⟨hvl,hvg⟩:=zjx hcl
  obtain ⟨rfl,hle⟩:=zcU hd
  obtain ⟨b',vs,ty,q1,q2,q3,q4⟩:=I.blk id _ ((h1 id (by simp)).trans hg)
  rw [hb] at q1;cases q1
  have key:∀ j,cellOf H2 (Addr.add ⟨b,off,none⟩ j)=vs[off+j]? := by
   intro j
   unfold cellOf
   rw [Addr.add_lit]
   simp only [h3 id (by simp) _ _ hb (show (LI.blk b).owns b from rfl),q2]
   simp
  refine .rp _ _ _ (fun j hj=>?_) (fun j y z hy hz=>?_)
  · rw [key]
    have:off+j<vs.length:=by rw [q3];rw [hvl] at hj;simp at hj;omega
    simp [this]
  · rw [key] at hz
    obtain ⟨y0,rd2,c2,e1,e2,e3,e4⟩:=hvg j y hy
    rw [List.getElem?_drop] at e1
    exact zlI I hLe (q4 _ y0 z e1 hz) e2 (fun id hid=>h1 id (List.mem_cons_of_mem _ (e3 id hid))) (e4 h2) (fun id hid=>h3 id (List.mem_cons_of_mem _ (e3 id hid)))
 | buf ρ1 id n n' sz v v' hb hle h0 he=>
  intro x' rd c hv h1 h2 h3
  subst hρ;subst hh
  simp only [view] at hv
  cases hg:mg id with
  | none=>simp [hg] at hv
  | some bl=>
  cases bl <;> simp only [hg] at hv <;> (try (cases hv;done))
  rename_i ty sz2 n2 e
  cases hv
  obtain rfl:=h2 _ rfl
  obtain ⟨v0,us,e1,e2,e3,e5,e4⟩:=I.blk id _ ((h1 id (by simp)).trans hg)
  rw [hb] at e1;cases e1
  obtain rfl:=he rfl
  exact zdX e2 (fun b hb'=>h3 id (by simp) _ b hb hb') e3 e5 (fun i j c v hi hj hv=>(e4 i j c v hi hj hv).heap hLe)
 | nz ρ1 n b hb=>
  intro x' rd c hv _ _ _
  simp only [view] at hv;cases hv;exact .nz _ _ _ hb
 | po ρ1 b cs v ht hf ih=>
  intro x' rd c hv _ _ _
  subst hh
  simp only [view] at hv;cases hv;exact .po _ _ _ _ (fun hg=>((ht hg).heap hLe).zdu rfl) hf
 | gp=>intro x' rd c hv _ _ _;simp [view] at hv
 | sb ρ1 id n a b n' sz v v' hb hle h0 he=>
  intro x' rd c hv h1 h2 h3
  subst hρ;subst hh
  simp only [view] at hv
  cases hg:mg id with
  | none=>simp [hg] at hv
  | some bl=>
  cases bl <;> simp only [hg] at hv <;> (try (cases hv;done))
  rename_i ty sz2 n2 e
  cases hv
  obtain ⟨rfl,hab,hbn⟩:=h2 _ rfl
  obtain ⟨v0,us,e1,e2,e3,e5,e4⟩:=I.blk id _ ((h1 id (by simp)).trans hg)
  rw [hb] at e1;cases e1
  obtain ⟨g,cap,rfl,rfl⟩:=he rfl
  have hro:=zdX (H2:=H2) e2 (fun b hb'=>h3 id (by simp) _ b hb hb') e3 e5 (fun i j c v hi hj hv=>(e4 i j c v hi hj hv).heap hLe)
  have:=znP hro hab hbn
  have hadr:(if cap=a then some (⟨g,0,none⟩:Addr) else (some (⟨g,0,none⟩:Addr)).map (·.add (a * sz)))=some (if cap=a then ⟨g,0,none⟩ else ⟨g,a * sz,none⟩):=by
   split
   · rfl
   · simp [Addr.add_lit]
  rw [hadr] at this
  exact this
 | gr'=>intro x' rd c hv _ _ _;simp [view] at hv
 | ge=>intro x' rd c hv _ _ _;simp [view] at hv
 | gb ρ1 id n li v hb hgg h0=>
  intro x' rd c hv h1 h2 h3
  subst hρ;subst hh
  simp only [view] at hv
  cases hg:mg id with
  | none=>simp [hg] at hv
  | some bl=>
  cases bl <;> simp only [hg] at hv <;> (try (cases hv;done))
  rename_i tS ty sz2 n2 m e
  cases hv
  obtain rfl:=h2 _ rfl
  obtain ⟨v0,rows',e1,e2,e3,e4,_,_⟩:=I.blk id _ ((h1 id (by simp)).trans hg)
  rw [hb] at e1;cases e1
  obtain rfl:=(hgg _ _ _ rfl).2 e2.symm
  refine zdX e3 (fun b hb'=>h3 id (by simp) _ b hb (.inl hb')) (fun _ _=>rfl) (fun x hx=>?_) (fun i j c y hi hj hy=>?_)
  · obtain ⟨r,hr,rfl⟩:=List.mem_map.1 hx
    obtain ⟨k,hk⟩:=List.getElem?_of_mem hr
    exact (e4 k r hk).2.1
  · have hj0:j=0:=by
     have:=(List.getElem?_eq_some_iff.1 hj).1
     simp at this;exact this
    subst hj0
    simp at hj;subst hj
    rw [Nat.mul_one,Nat.add_zero,List.getElem?_map] at hy
    cases hk:rows'[i]? with
    | none=>simp [hk] at hy
    | some r=>
    simp [hk] at hy
    subst hy
    obtain ⟨g0,g1,xs,g2,g3,g4,g5⟩:=e4 i r hk
    rw [g0] at g2
    exact zdX g2 (fun b hb'=>h3 id (by simp) _ b hb (.inr ⟨r,List.mem_of_getElem? hk,hb'⟩)) g3 g4 (fun i' j' c' v' hi' hj' hv'=>(g5 i' j' c' v' hi' hj' hv').heap hLe)
theorem ze3 (I:InvH N C h ρ F M g a w) {H2:Hp} (hLe:Le h H2) {xs xs':List AV} {vs:List Value} {rd:List Nat} {c:Option Prop} (H:RelL h ρ xs vs) (hv:zgu mg xs=some (xs',rd,c)) (hm:∀ id,id∈rd→M id=mg id) (hc:∀ q,c=some q→q)
 (hH:∀ id,id∈rd→∀ li b,ρ id=some li→li.owns b→H2 b=w.heap[b]?):RelL H2 ρ0 xs' vs:=by
 obtain ⟨hl,hg⟩:=zeQ hv
 refine ⟨by rw [hl];exact H.1,fun i y z hy hz=>?_⟩
 obtain ⟨y0,rd',c',e1,e2,e3,e4⟩:=hg i y hy
 exact zjw I hLe (H.2 i y0 z e1 hz) e2 (fun id hid=>hm id (e3 id hid)) (e4 hc) (fun id hid=>hH id (e3 id hid))
end
def Enters (P:Program) (f:FuncId):Prop:=∀ args w,(callFunc f args).run P w = .ok (.enter f args) w
def Fw (r:Option Nat):Fence:={ fn:=fun _=>True,depth:=none,alive:=false,round:=r }
def mm:List (Nat×Blk)→Mm
 | []=>fun _=>none
 | (i,b)::r=>upd (mm r) i (some b)
structure Owns (h:Hp) (ρ:Rho) (B:List (Nat×Blk)) (w w':World):Prop where
 blk:∀ id x,mm B id=some x→zbJ h ρ id x w'
 dom:∀ id,mm B id=none→ρ id=none
 own:∀ id li b,ρ id=some li→li.owns b→h b=none∧w.heap.size≤b∧b<w'.heap.size
 inj:∀ id id' li li' b,ρ id=some li→ρ id'=some li'→li.owns b→li'.owns b→id=id'
def zhS (h:Hp) (w:World) (v:AV) (B:List (Nat×Blk)):Ending→World→Prop
 | .returned x,w'=>∃ h' ρ',RowKit.Below w.heap.size w w'∧(∀ b o,h b=some o→h' b=some o)∧(∀ b o,h' b=some o→h b=some o∨(w.heap.size≤b∧w'.heap[b]? = some o))∧Rel h' ρ' v x∧Owns h' ρ' B w w'
 | _,_=>False
def Ctr (P:Program) (f:FuncId) (args:List AV) (v:AV) (B:List (Nat×Blk):=[]):Prop:=
 Enters P f∧∀ (h:Hp) (w:World) (vs:List Value),RelL h ρ0 args vs→(∀ b o,h b=some o→w.heap[b]? = some o)→CallsIn (Fw none) 0 P f vs.toArray w (zhS h w v B)
structure Ownd (h:Hp) (ρ:Rho) (B:List (Nat×Blk)) (w:World):Prop where
 blk:∀ id x,mm B id=some x→zbJ h ρ id x w
 dom:∀ id,mm B id=none→ρ id=none
 own:∀ id li b,ρ id=some li→li.owns b→h b=none∧b<w.heap.size
 inj:∀ id id' li li' b,ρ id=some li→ρ id'=some li'→li.owns b→li'.owns b→id=id'
def zkK (h:Hp) (w:World) (ρ:Rho) (v:AV) (B:List (Nat×Blk)):Ending→World→Prop
 | .returned x,w'=>∃ h' ρ',w'.os=w.os∧w'.tape=w.tape∧w'.output=w.output∧w.heap.size≤w'.heap.size∧(∀ k,k<w.heap.size→¬ zcs ρ k→w'.heap[k]? = w.heap[k]?) ∧
  (∀ b o,h b=some o→h' b=some o)∧(∀ b o,h' b=some o→h b=some o∨(w.heap.size≤b∧w'.heap[b]? = some o))∧Rel h' ρ' v x∧Ownd h' ρ' B w'∧(∀ id li b,ρ' id=some li→li.owns b→zcs ρ b∨w.heap.size≤b)∧∀ id li li',ρ id=some li→ρ' id=some li'→li.le li'
 | _,_=>False
def CtrO (P:Program) (f:FuncId) (args:List AV) (A:List (Nat×Blk)) (v:AV) (B:List (Nat×Blk)):Prop:=
 Enters P f∧∀ (h:Hp) (w:World) (ρ:Rho) (vs:List Value),RelL h ρ args vs→(∀ b o,h b=some o→w.heap[b]? = some o)→Ownd h ρ A w→CallsIn (Fw none) 0 P f vs.toArray w (zkK h w ρ v B)
def CtrG (P:Program) (f:FuncId) (xs:List AV×List (Nat×Blk)) (v:AV) (B:List (Nat×Blk)):Prop:=match xs.2 with
 | []=>Ctr P f xs.1 v B
 | _::_=>match takes B with
  | some _=>CtrO P f xs.1 xs.2 v B.tail
  | none=>CtrO P f xs.1 xs.2 v B
theorem zpI (r:Option Nat) (n:Nat):(Fw r).room n:=fun d h=>by cases h
theorem zcV {P:Program} {f:FuncId} {args:Array Value} {w:World} {R:Ending→World→Prop} {r r':Option Nat} {n n':Nat} (H:CallsIn (Fw r) n P f args w R):CallsIn (Fw r') n' P f args w R:=
 ⟨trivial,fun cs _=>H.2 cs (zpI _ _)⟩
section
variable {P:Program} {N:Nat} {C:Ctx} {h:Hp} {ρ:Rho} {F:Fr} {M:Mm} {g:Nat} {a:Act} {w:World} {Γ:Tys} {mg:Mm} {o:Oper}
def zjY (P:Program) (N:Nat) (C:Ctx) (F:Fr) (M:Mm) (g:Nat) (a:Act) (o:Oper) (w:World) (v:AV) (wr:List (Nat×Blk)):Prop:=
 ∀ (rr:Option Nat) (n:Nat) (K:Act→World→Prop) (Q:Exit→Act→World→Prop),(∀ x h' ρ' w',InvH N C h' ρ' F (updL M wr) g a w'→Rel h' ρ' v x→K (a.put o.dst x) w')→o.wpIn (Fw rr) n P a w K Q
theorem Good.zmq {r:R} (G:Good P N C h ρ F M g a o w r) (hd:∀ c,o.op ≠ .defer c):zjY P N C F M g a o w r.v r.wr:=by
 intro rr n K Q hK
 obtain ⟨x,w',h',ρ',hr,I,hv⟩:=G
 refine ⟨fun _ _=>trivial,?_⟩
 rw [Oper.semAt_eq _ _ _ hd]
 rcases hr with e|⟨e,rfl⟩ <;> rw [e]
 · exact hK _ _ _ _ I hv
 · exact hK _ _ _ _ I hv
theorem zdU:∀ {B:List (Nat×Blk)} {id:Nat},id∈zaC B↔(mm B id).isSome=true
 | [],id=>by simp [zaC,mm]
 | (i,b)::r,id=>by
  simp only [zaC,mm,List.mem_cons,upd]
  split
  · rename_i hb;simp [Nat.eq_of_beq_eq_true hb]
  · rename_i hb
    rw [zdU (B:=r)]
    have:id≠i:=by rintro rfl;simp at hb
    simp [this]
theorem zir {k:Nat}:∀ {B:List (Nat×Blk)},zaC (shB k B)=(zaC B).map (k + ·)
 | []=>rfl
 | (i,b)::r=>by simp [zaC,shB,zir (B:=r)]
theorem zff:∀ {l:List Nat},zgo mg l=true→∀ i,i∈l→mg i=none
 | x::l,h,i,hi=>by
  unfold zgo at h
  split at h
  · rename_i hx
    rcases List.mem_cons.1 hi with rfl|hi
    · exact hx
    · exact zff h i hi
  · cases h
theorem zgj {i:Nat} {r:List Nat} (h:zfI (i::r)=true):i ∉ r∧zfI r=true:=by
 unfold zfI at h
 split at h
 · cases h
 · rename_i hb
   refine ⟨fun hi=>?_,h⟩
   have:∀ {l:List Nat} {t:Nat},t∈l→zbc l t=true:=by
    intro l
    induction l with
    | nil=>intro t h;cases h
    | cons k l ih=>
     intro t h
     unfold zbc
     rcases List.mem_cons.1 h with rfl|h
     · simp
     · split
       · rfl
       · exact ih h
   rw [this hi] at hb;cases hb
theorem zg1 {k:Nat}:∀ {B:List (Nat×Blk)} {M:Mm} {id:Nat},(∀ i,i∈zaC B→id≠k+i)→updL M (shB k B) id=M id
 | [],_,_,_=>rfl
 | (i,b)::r,M,id,h=>by
  simp only [shB,updL]
  rw [zg1 (fun j hj=>h j (by simp [zaC,hj])),zae _ _ (h i (by simp [zaC]))]
theorem ziw {k:Nat}:∀ {B:List (Nat×Blk)} {M:Mm} {id:Nat},zfI (zaC B)=true→id∈zaC B→∃ x,mm B id=some x∧updL M (shB k B) (k+id)=some (x.sh k)
 | (i,b)::r,M,id,hd,h=>by
  obtain ⟨h1,h2⟩:=zgj (by simpa only [zaC] using hd)
  simp only [shB,updL,mm,upd]
  simp only [zaC,List.mem_cons] at h
  by_cases e:id=i
  · subst e
    refine ⟨b,by simp,?_⟩
    rw [zg1 (fun j hj=>by rintro e;have:id=j:=(by omega);exact h1 (this▸hj)),zah]
  · obtain ⟨x,e1,e2⟩:=ziw (M:=upd M (k+i) (some (b.sh k))) h2 (h.resolve_left e)
    refine ⟨x,?_,e2⟩
    have:Nat.beq id i=false:=by
     cases hb:Nat.beq id i with
     | false=>rfl
     | true=>exact absurd (Nat.eq_of_beq_eq_true hb) e
    simp [this,e1]
theorem InvH.adopt (I:InvH N C h ρ F M g a w) {w':World} {h':Hp} {ρc:Rho} {B:List (Nat×Blk)} {k:Nat} (hB:RowKit.Below w.heap.size w w') (hh:∀ b o,h b=some o→h' b=some o) (hnew:∀ b o,h' b=some o→h b=some o∨(w.heap.size≤b∧w'.heap[b]? = some o))
 (O:Owns h' ρc B w w') (hd:zfI (zaC B)=true) (hf:∀ i,i∈zaC B→M (k+i)=none) (ho:zc5 (zaC B) B=true) :
 ∃ ρ',InvH N C h' ρ' F (updL M (shB k B)) g a w'∧∀ i,i∈zaC B→ρ' (k+i)=ρc i:=by
 classical
 let ρ':Rho:=fun id=>if k≤id∧(id - k)∈zaC B then ρc (id - k) else ρ id
 have hin:∀ i,i∈zaC B→ρ' (k+i)=ρc i:=fun i hi=>by
  show (if k≤k+i∧(k+i - k)∈zaC B then ρc (k+i - k) else ρ (k+i))=ρc i
  rw [Nat.add_sub_cancel_left,if_pos ⟨Nat.le_add_right _ _,hi⟩]
 have hout:∀ id,(¬ ∃ i,i∈zaC B∧id=k+i)→ρ' id=ρ id:=fun id hn=>by
  show (if k≤id∧(id - k)∈zaC B then ρc (id - k) else ρ id)=ρ id
  rw [if_neg]
  rintro ⟨h1,h2⟩
  exact hn ⟨id - k,h2,by omega⟩
 have hblk:∀ i x,i∈zaC B→mm B i=some x→zeh (zaC B) x=true:=by
  have key:∀ {ids:List Nat} {B':List (Nat×Blk)},zc5 ids B'=true→∀ i x,mm B' i=some x→zeh ids x=true:=by
   intro ids B'
   induction B' with
   | nil=>intro _ i x hx;cases hx
   | cons y r ih=>
    obtain ⟨j,b⟩:=y
    intro ho i x hx
    unfold zc5 at ho
    split at ho
    · rename_i hb
      simp only [mm,upd] at hx
      split at hx
      · cases hx;exact hb
      · exact ih ho i x hx
    · cases ho
  intro i x _ hx
  exact key ho i x hx
 refine ⟨ρ',I.step (S:=fun id=>∃ i,i∈zaC B∧id=k+i) hB.os hB.tape hB.output hB.size (fun k' hk' _=>hB.block k' hk') hout ?_ hh hnew ?_ ?_ ?_ ?_ ?_,hin⟩
 · intro id li hi
   refine ⟨li,?_,.inl rfl⟩
   rw [hout id ?_]
   · exact hi
   · rintro ⟨i,h1,rfl⟩
     rw [I.dom _ (hf i h1)] at hi;cases hi
 · intro id hn
   exact zg1 (fun i hi e=>hn ⟨i,hi,e⟩)
 · rintro id ⟨i,h1,rfl⟩ hM
   obtain ⟨x,_,e2⟩:=ziw (M:=M) (k:=k) hd h1
   rw [e2] at hM;cases hM
 · rintro id x ⟨i,h1,rfl⟩ hM
   obtain ⟨y,e1,e2⟩:=ziw (M:=M) (k:=k) hd h1
   rw [e2] at hM;cases hM
   exact (O.blk i y e1).shift hin h1 (hblk i y h1 e1)
 · rintro id li b ⟨i,h1,rfl⟩ hr hb
   rw [hin i h1] at hr
   obtain ⟨q1,q2,q3⟩:=O.own i li b hr hb
   exact .inr ⟨q2,q3,q1⟩
 · rintro id id' li li' b ⟨i,h1,rfl⟩ ⟨i',h1',rfl⟩ hr hr' hb hb'
   rw [hin i h1] at hr
   rw [hin i' h1'] at hr'
   rw [O.inj i i' li li' b hr hr' hb hb']
theorem zjf (I:InvH N C h ρ F M g a w) {f:FuncId} {xs':List AV} {vs:List Value} {rd:List Nat} {c:Option Prop} {rv:RV} {r:R} (hrun:(execOp a.eval o).run P w=(callFunc f vs.toArray).run P w) (hd:∀ c,o.op ≠ .defer c)
 (hr:zmb mg f xs' rd c rv=some r) (hm:∀ id,id∈r.rd→M id=mg id) (hctr:Ctr P f xs' rv.v rv.B)
 (H:∀ H2:Hp,Le h H2→(∀ id,id∈rd→∀ li b,ρ id=some li→li.owns b→H2 b=w.heap[b]?)→(rd=[]∨r.rd=rd)→RelL H2 ρ0 xs' vs):zjY P N C F M g a o w r.v r.wr:=by
 intro rr n K Q hK
 refine ⟨fun _ _=>trivial,?_⟩
 rw [Oper.semAt_eq _ _ _ hd,hrun,hctr.1]
 refine ⟨fun e=>(by cases e),?_⟩
 obtain ⟨v,B,k,K0⟩:=rv
 unfold zmb at hr
 cases rd with
 | nil=>
  simp only [] at hr
  split at hr
  · rename_i h1
    split at hr
    · rename_i h2
      split at hr
      · rename_i h3
        split at hr
        · rename_i h4
          cases hr
          refine zcV ((hctr.2 h w vs (H h (Le.refl h) (fun id hid=>by cases hid) (.inl rfl)) I.hp).mono fun e w' he=>?_)
          cases e with
          | returned x=>
           obtain ⟨h',ρc,q1,q2,q3,q4,q5⟩:=he
           have hfr:∀ i,i∈zaC B→M (k+i)=none:=fun i hi=>by
            have hmem:k+i∈zaC (shB k B):=by rw [zir];exact List.mem_map_of_mem hi
            rw [hm _ hmem]
            exact zff h4 _ hmem
           obtain ⟨ρ',I',hin⟩:=I.adopt q1 q2 q3 q5 h3 hfr h2
           exact hK x h' ρ' w' I' (q4.shift hin h1)
          | panicked ch=>exact he.elim
          | outgrown=>exact he.elim
        · cases hr
      · cases hr
    · cases hr
  · cases hr
 | cons i rd=>
  simp only [] at hr
  split at hr
  · rename_i hgr
    cases B with
    | cons=>simp at hr
    | nil=>
    simp only [] at hr
    cases hr
    refine zcV ((hctr.2 (hAll h ρ w) w vs (H _ (Le.of I.zmL) (fun id hid li b h1 h2=>zmP h1 h2) (.inr rfl)) I.zpQ).mono fun e w' he=>?_)
    cases e with
    | returned x=>
     obtain ⟨h',ρc,h1,h2,h3,h4,_⟩:=he
     exact hK x h ρ w' (I.below h1 (fun _ _ x=>x) (fun _ _ x=>.inl x)) (h4.zpZ hgr)
    | panicked ch=>exact he.elim
    | outgrown=>exact he.elim
  · cases hr
theorem zgf {P:Program} {a:Act} {o:Oper} {f:Operand} {args:Array Operand} {ts:Array TypeId} (ho:o.op = .call { callee:=.value f,args:=args,argTypes:=ts }) {gf:FuncId} {us ws:List Value} (he:a.eval f = .func (.func gf) us.toArray ws.toArray) (w:World) :
 (execOp a.eval o).run P w=(callFunc gf (us++(args.toList.map a.eval++ws)).toArray).run P w:=by
 have e1:args.map a.eval=(args.toList.map a.eval).toArray:=by apply Array.ext';simp
 unfold execOp
 simp [ho,resolve,Deferred.ofValue,invoke,he,e1]
theorem zku {f:FuncId} {xs:List AV} {rd:List Nat} {c:Option Prop} {rv:RV} {r:R} (h:zmb mg f xs rd c rv=some r):r.cs=c∧r.rq=some (f,xs,[])∧(rd=[]∨r.rd=rd):=by
 unfold zmb at h
 cases rd with
 | nil=>
  simp only [] at h
  split at h
  · split at h
    · split at h
      · split at h
        · cases h;exact ⟨rfl,rfl,.inl rfl⟩
        · cases h
      · cases h
    · cases h
  · cases h
 | cons=>
  simp only [] at h
  split at h
  · cases hB:rv.B with
    | nil=>simp only [hB] at h;cases h;exact ⟨rfl,rfl,.inr rfl⟩
    | cons=>simp [hB] at h
  · cases h
theorem zoN (I:InvH N C h ρ F M g a w) {f:FuncId} {xs:List AV} {vs:List Value} {rv:RV} {id:Nat} {r:R} (hrun:(execOp a.eval o).run P w=(callFunc f vs.toArray).run P w) (hd:∀ c,o.op ≠ .defer c) (htk:takes rv.B=some id)
 (hr:zoz mg f xs id rv.v rv.B.tail rv.k=some r) (hm:∀ id,id∈r.rd→M id=mg id) (hq:∀ gf xs,r.rq=some (gf,xs)→CtrG P gf xs rv.v rv.B) (hx:RelL h ρ xs vs):zjY P N C F M g a o w r.v r.wr:=by
 intro rr n K Q hK
 obtain ⟨v,B0,k,K0⟩:=rv
 obtain ⟨B,hB⟩:∃ B,B0.tail=B:=⟨_,rfl⟩
 simp only [hB] at hr hq
 unfold zoz at hr
 cases hg:mg id with
 | none=>simp [hg] at hr
 | some bl=>
 cases bl <;> simp only [hg] at hr <;> (try (cases hr;done))
 rename_i ty sz m e
 cases h1:zde [id] xs with
 | false=>simp [h1] at hr
 | true=>
 simp only [h1] at hr
 cases h2:zay (zaC B) v with
 | false=>simp [h2] at hr
 | true=>
 simp only [h2] at hr
 cases h3:zc5 (zaC B) B with
 | false=>simp [h3] at hr
 | true=>
 simp only [h3] at hr
 cases h4:zfI (zaC B) with
 | false=>simp [h4] at hr
 | true=>
 simp only [h4] at hr
 cases h5:zgo mg (zaC (shB k B)) with
 | false=>simp [h5] at hr
 | true=>
 simp only [h5] at hr
 cases hr
 have hctr:CtrO P f xs [(id,.buf ty sz m e)] v B:=by
  have:=hq f (xs,[(id,.buf ty sz m e)]) rfl
  simpa [CtrG,hB,show takes B0=some id from htk] using this
 have hMid:M id=some (.buf ty sz m e):=(hm id (by simp)).trans hg
 have hfr:∀ i,i∈zaC B→M (k+i)=none:=fun i hi=>by
  have hmem:k+i∈zaC (shB k B):=by rw [zir];exact List.mem_map_of_mem hi
  rw [hm _ (by simp [hmem])]
  exact zff h5 _ hmem
 have hne:∀ i,i∈zaC B→k+i≠id:=fun i hi e=>by
  have:=hfr i hi
  rw [e,hMid] at this;cases this
 obtain ⟨v0,us,k1,k2,k3,k5,k4⟩:=I.blk id _ hMid
 refine ⟨fun _ _=>trivial,?_⟩
 rw [Oper.semAt_eq _ _ _ hd,hrun,hctr.1]
 refine ⟨fun e=>(by cases e),?_⟩
 obtain ⟨ρi,hρi⟩:∃ ρi:Rho,ρi=fun j=>if j=id then ρ id else none:=⟨_,rfl⟩
 have hρid:ρi id=ρ id:=by rw [hρi];simp
 have hρin:∀ j li,ρi j=some li→j=id∧ρ id=some li:=fun j li h=>by
  rw [hρi] at h
  by_cases hj:j=id
  · simp [hj] at h;exact ⟨hj,h⟩
  · simp [hj] at h
 have hown:∀ b,zcs ρi b↔∃ li,ρ id=some li∧li.owns b:=fun b=>by
  constructor
  · rintro ⟨j,li,q1,q2⟩
    obtain ⟨rfl,q3⟩:=hρin j li q1
    exact ⟨li,q3,q2⟩
  · rintro ⟨li,q1,q2⟩
    exact ⟨id,li,hρid.trans q1,q2⟩
 have hrel:RelL h ρi xs vs:=⟨hx.1,fun i c v hc hv=>(hx.2 i c v hc hv).forget (ids:=[id]) (fun j hj=>by
  have:j=id:=by simpa using hj
  subst this;exact hρid) (za0 h1 hc)⟩
 have hOw:Ownd h ρi [(id,.buf ty sz m e)] w:=by
  refine ⟨fun j x hj=>?_,fun j hj=>?_,fun j li b q1 q2=>?_,fun j j' li li' b q1 q1' _ _=>?_⟩
  · simp only [mm,upd] at hj
    split at hj
    · rename_i hb
      have:=Nat.eq_of_beq_eq_true hb
      subst this
      cases hj
      exact ⟨v0,us,hρid.trans k1,k2,k3,k5,k4⟩
    · cases hj
  · cases hp:ρi j with
    | none=>rfl
    | some li=>
     obtain ⟨rfl,_⟩:=hρin j li hp
     simp [mm,upd] at hj
  · obtain ⟨rfl,q3⟩:=hρin j li q1
    obtain ⟨q4,q5,_⟩:=I.own j li b q3 q2
    exact ⟨q4,q5⟩
  · rw [(hρin j li q1).1,(hρin j' li' q1').1]
 refine zcV ((hctr.2 h w ρi vs hrel I.hp hOw).mono fun en w' he=>?_)
 cases en with
 | panicked ch=>exact he.elim
 | outgrown=>exact he.elim
 | returned x=>
 obtain ⟨h',ρ2,p1,p2,p3,p4,p5,p6,p7,p8,p9,p10,_⟩:=he
 classical
 let ρ':Rho:=fun j=>if j=id then some (.sl (m+1) sz (.slice none 0 0)) else if k≤j∧(j - k)∈zaC B then ρ2 (j - k) else ρ j
 have hin:∀ i,i∈zaC B→ρ' (k+i)=ρ2 i:=fun i hi=>by
  show (if k+i=id then _ else if k≤k+i∧(k+i - k)∈zaC B then ρ2 (k+i - k) else ρ (k+i))=ρ2 i
  rw [if_neg (hne i hi),Nat.add_sub_cancel_left,if_pos ⟨Nat.le_add_right _ _,hi⟩]
 have hdead:ρ' id=some (.sl (m+1) sz (.slice none 0 0)):=if_pos rfl
 have hout:∀ j,¬ (j=id∨∃ i,i∈zaC B∧j=k+i)→ρ' j=ρ j:=fun j hn=>by
  simp only [not_or] at hn
  show (if j=id then _ else if k≤j∧(j - k)∈zaC B then ρ2 (j - k) else ρ j)=ρ j
  rw [if_neg hn.1,if_neg]
  rintro ⟨q1,q2⟩
  exact hn.2 ⟨j - k,q2,by omega⟩
 have hblk:∀ i x,mm B i=some x→zeh (zaC B) x=true:=by
  have key:∀ {ids:List Nat} {B':List (Nat×Blk)},zc5 ids B'=true→∀ i x,mm B' i=some x→zeh ids x=true:=by
   intro ids B'
   induction B' with
   | nil=>intro _ i x hx;cases hx
   | cons y r ih=>
    obtain ⟨j,b⟩:=y
    intro ho i x hx
    unfold zc5 at ho
    split at ho
    · rename_i hb
      simp only [mm,upd] at hx
      split at hx
      · cases hx;exact hb
      · exact ih ho i x hx
    · cases ho
  exact key h3
 have hMd:∀ j,updL M ((id,.dead)::shB k B) j=updL (upd M id (some .dead)) (shB k B) j:=fun j=>rfl
 have hMid':updL M ((id,.dead)::shB k B) id=some .dead:=by
  rw [hMd,zg1 (fun i hi=>(hne i hi).symm),zah]
 refine hK x h' ρ' w' (I.step (S:=fun j=>j=id∨∃ i,i∈zaC B∧j=k+i) p1 p2 p3 p4 (fun kk hkk hS=>p5 kk hkk (fun ho=>by
  obtain ⟨li,q1,q2⟩:=(hown kk).1 ho
  exact hS id li (.inl rfl) q1 q2)) hout ?_ p6 p7 ?_ ?_ ?_ ?_ ?_) (p8.shift hin h2)
 · intro j li hj
   by_cases hj1:j=id
   · subst hj1
     rw [k1] at hj;cases hj
     exact ⟨_,hdead,.inr (.inl ⟨_,_,_,_,_,rfl,rfl,Nat.lt_succ_self _⟩)⟩
   · refine ⟨li,?_,.inl rfl⟩
     rw [hout j ?_]
     · exact hj
     · rintro (q|⟨i,q1,rfl⟩)
       · exact hj1 q
       · rw [I.dom _ (hfr i q1)] at hj;cases hj
 · intro j hn
   simp only [not_or] at hn
   show updL M ((id,.dead)::shB k B) j=M j
   rw [hMd,zg1 (fun i hi e=>hn.2 ⟨i,hi,e⟩),zae _ _ hn.1]
 · rintro j (rfl|⟨i,q1,rfl⟩) hM
   · rw [hMid'] at hM;cases hM
   · obtain ⟨y,_,e2⟩:=ziw (M:=upd M id (some .dead)) (k:=k) h4 q1
     rw [hMd,e2] at hM;cases hM
 · rintro j y (rfl|⟨i,q1,rfl⟩) hM
   · rw [hMid'] at hM;cases hM
     exact ⟨_,_,hdead⟩
   · obtain ⟨z,e1,e2⟩:=ziw (M:=upd M id (some .dead)) (k:=k) h4 q1
     rw [hMd,e2] at hM;cases hM
     exact (p9.blk i z e1).shift hin q1 (hblk i z e1)
 · rintro j li b (rfl|⟨i,q1,rfl⟩) hj hb
   · rw [hdead] at hj;cases hj;simp [LI.owns,Value.ownBlock] at hb
   · rw [hin i q1] at hj
     rcases p10 i li b hj hb with q2|q2
     · obtain ⟨li0,q3,q4⟩:=(hown b).1 q2
       exact .inl ⟨id,li0,.inl rfl,q3,q4⟩
     · obtain ⟨q3,q4⟩:=p9.own i li b hj hb
       exact .inr ⟨q2,q4,q3⟩
 · rintro j j' li li' b (rfl|⟨i,q1,rfl⟩) (rfl|⟨i',q1',rfl⟩) hj hj' hb hb'
   · rfl
   · rw [hdead] at hj;cases hj;simp [LI.owns,Value.ownBlock] at hb
   · rw [hdead] at hj';cases hj';simp [LI.owns,Value.ownBlock] at hb'
   · rw [hin i q1] at hj
     rw [hin i' q1'] at hj'
     rw [p9.inj i i' li li' b hj hj' hb hb']
theorem zbJ.forget {h:Hp} {ρ ρ':Rho} {ids:List Nat} (hρ:∀ id,id∈ids→ρ' id=ρ id) {id:Nat} {x:Blk} {w:World} (H:zbJ h ρ id x w) (hid:id∈ids) (ho:zeh ids x=true):zbJ h ρ' id x w:=by
 cases x with
 | cells cs=>
  obtain ⟨b,vs,ty,q1,q2,q3,q4⟩:=H
  exact ⟨b,vs,ty,(hρ id hid).trans q1,q2,q3,fun i c v hc hv=>(q4 i c v hc hv).forget hρ (za0 (by simpa [zeh] using ho) hc)⟩
 | buf ty sz n e=>
  obtain ⟨v,xs,q1,q2⟩:=H
  exact ⟨v,xs,(hρ id hid).trans q1,q2⟩
 | map z dom e n=>
  obtain ⟨b,es,clock,ks,q1,q2⟩:=H
  exact ⟨b,es,clock,ks,(hρ id hid).trans q1,q2⟩
 | bufk ty sz n c e=>
  obtain ⟨v,xs,q1,q2⟩:=H
  exact ⟨v,xs,(hρ id hid).trans q1,q2⟩
 | iter e cur Pl=>
  obtain ⟨b,bm,clock,c0,es,seen,left,q1,q2⟩:=H
  exact ⟨b,bm,clock,c0,es,seen,left,(hρ id hid).trans q1,q2⟩
 | dead=>
  obtain ⟨n,sz,q1⟩:=H
  exact ⟨n,sz,(hρ id hid).trans q1⟩
 | grid tS ty sz n m e=>
  obtain ⟨v,rows,q1,q2⟩:=H
  exact ⟨v,rows,(hρ id hid).trans q1,q2⟩
 | gmap ty sz n dom m e out=>rw [← zj7 out];exact H.zkh (fun a=>a) (hρ id hid) (fun j a v ha hr=>hr.forget hρ (by subst ha;exact ho))
 | rows ty sz hd dom m e out=>rw [← zj7 out];exact H.zj4 (fun a=>a) (hρ id hid) (fun j a v ha hr=>hr.forget hρ (by subst ha;exact ho))
theorem zbJ.name {h:Hp} {ρ:Rho} {id:Nat} {x:Blk} {w:World} (H:zbJ h ρ id x w):∃ li,ρ id=some li:=by
 cases x with
 | cells cs=>obtain ⟨b,vs,ty,q1,_⟩:=H;exact ⟨_,q1⟩
 | buf ty sz n e=>obtain ⟨v,xs,q1,_⟩:=H;exact ⟨_,q1⟩
 | map z dom e n=>obtain ⟨b,es,clock,ks,q1,_⟩:=H;exact ⟨_,q1⟩
 | bufk ty sz n c e=>obtain ⟨v,xs,q1,_⟩:=H;exact ⟨_,q1⟩
 | iter e cur Pl=>obtain ⟨b,bm,clock,c0,es,seen,left,q1,_⟩:=H;exact ⟨_,q1⟩
 | dead=>obtain ⟨n,sz,q1⟩:=H;exact ⟨_,q1⟩
 | grid tS ty sz n m e=>obtain ⟨v,rows,q1,_⟩:=H;exact ⟨_,q1⟩
 | gmap ty sz n dom m e out=>obtain ⟨b,es,clock,ks,R,q1,_⟩:=H;exact ⟨_,q1⟩
 | rows ty sz hd dom m e out=>obtain ⟨R,q1,_⟩:=H;exact ⟨_,q1⟩
theorem zfH {ids:List Nat}:∀ {B:List (Nat×Blk)},zc5 ids B=true→∀ i x,mm B i=some x→zeh ids x=true
 | [],_,i,x,hx=>by cases hx
 | (j,b)::r,ho,i,x,hx=>by
  unfold zc5 at ho
  split at ho
  · rename_i hb
    simp only [mm,upd] at hx
    split at hx
    · cases hx;exact hb
    · exact zfH ho i x hx
  · cases ho
theorem zfB:∀ {B:List (Nat×Blk)} {M:Mm} {i:Nat},zfI (zaC B)=true→i∈zaC B→updL M B i=mm B i
 | [],M,i,_,h=>by cases h
 | (j,b)::r,M,i,hn,h=>by
  obtain ⟨h1,h2⟩:=zgj (i:=j) (r:=zaC r) hn
  simp only [updL]
  rcases List.mem_cons.1 h with rfl|h3
  · have e:updL (upd M i (some b)) r i=upd M i (some b) i:=by
     have key:∀ {r:List (Nat×Blk)} {M:Mm},i ∉ zaC r→updL M r i=M i:=by
      intro r
      induction r with
      | nil=>intro M _;rfl
      | cons y r ih=>
       obtain ⟨k,c⟩:=y
       intro M hk
       simp only [zaC,List.mem_cons,not_or] at hk
       simp only [updL]
       rw [ih hk.2,zae _ _ hk.1]
     exact key h1
    rw [e,zah]
    simp [mm,upd]
  · rw [zfB h2 h3]
    have hne:i≠j:=fun e=>h1 (e▸h3)
    simp only [mm]
    rw [zae _ _ hne]
theorem zij:∀ {B:List (Nat×Blk)} {M:Mm} {i:Nat},i ∉ zaC B→updL M B i=M i
 | [],M,i,_=>rfl
 | (j,b)::r,M,i,h=>by
  simp only [zaC,List.mem_cons,not_or] at h
  simp only [updL]
  rw [zij h.2,zae _ _ h.1]
theorem ziY {mg:Mm}:∀ {K:List Nat} {A:List (Nat×Blk)},handed mg K=some A→(∀ i,i∈K→∃ b,mm A i=some b∧mg i=some b)∧∀ i,i ∉ K→mm A i=none
 | [],A,h=>by simp only [handed] at h;cases h;exact ⟨fun i h=>(by cases h),fun i _=>rfl⟩
 | j::K,A,h=>by
  simp only [handed] at h
  split at h
  · rename_i b hb
    split at h
    · rename_i l hl
      cases h
      obtain ⟨h1,h2⟩:=ziY hl
      refine ⟨fun i hi=>?_,fun i hi=>?_⟩
      · simp only [mm]
        by_cases e:i=j
        · subst e;exact ⟨b,zah _ _ _,hb⟩
        · rw [zae _ _ e]
          rcases List.mem_cons.1 hi with h3|h3
          · exact absurd h3 e
          · exact h1 i h3
      · simp only [List.mem_cons,not_or] at hi
        simp only [mm]
        rw [zae _ _ hi.1]
        exact h2 i hi.2
    · cases h
  · cases h
theorem zhR {ids:List Nat}:∀ {K:List Nat},znz ids K=true→∀ i,i∈K→i∈ids
 | [],_,i,h=>by cases h
 | j::K,h,i,hi=>by
  simp only [znz] at h
  split at h
  · rename_i hj
    rcases List.mem_cons.1 hi with rfl|h3
    · exact zaz hj
    · exact zhR h i h3
  · cases h
theorem zfS {K:List Nat} {mg:Mm}:∀ {l:List Nat},zhD K mg l=true→∀ i,i∈l→i∈K∨mg i=none
 | [],_,i,h=>by cases h
 | j::l,h,i,hi=>by
  simp only [zhD] at h
  split at h
  · rename_i hj
    rcases List.mem_cons.1 hi with rfl|h3
    · exact .inl (zaz hj)
    · exact zfS h i h3
  · split at h
    · rename_i hm
      rcases List.mem_cons.1 hi with rfl|h3
      · exact .inr hm
      · exact zfS h i h3
    · cases h
theorem zoO (I:InvH N C h ρ F M g a w) {f:FuncId} {xs:List AV} {vs:List Value} {rv:RV} {r:R} (hrun:(execOp a.eval o).run P w=(callFunc f vs.toArray).run P w) (hd:∀ c,o.op ≠ .defer c) (htk:takes rv.B=none) {i0:Nat} {K0:List Nat}
 (hr:zoA mg f xs rv.v rv.B (i0::K0)=some r) (hm:∀ id,id∈r.rd→M id=mg id) (hq:∀ gf xs,r.rq=some (gf,xs)→CtrG P gf xs rv.v rv.B) (hx:RelL h ρ xs vs):zjY P N C F M g a o w r.v r.wr:=by
 intro rr n KK Q hK
 obtain ⟨v,B,k,K1⟩:=rv
 obtain ⟨K,hKe⟩:∃ K,i0::K0=K:=⟨_,rfl⟩
 simp only [hKe] at hr hq htk
 unfold zoA at hr
 cases hg:handed mg K with
 | none=>simp [hg] at hr
 | some A=>
 simp only [hg] at hr
 cases h1:zde K xs with
 | false=>simp [h1] at hr
 | true=>
 simp only [h1] at hr
 cases h2:zc5 K A with
 | false=>simp [h2] at hr
 | true=>
 simp only [h2] at hr
 cases h3:zay (zaC B) v with
 | false=>simp [h3] at hr
 | true=>
 simp only [h3] at hr
 cases h4:zc5 (zaC B) B with
 | false=>simp [h4] at hr
 | true=>
 simp only [h4] at hr
 cases h5:zfI (zaC B) with
 | false=>simp [h5] at hr
 | true=>
 simp only [h5] at hr
 cases h6:znz (zaC B) K with
 | false=>simp [h6] at hr
 | true=>
 simp only [h6] at hr
 cases h7:zhD K mg (zaC B) with
 | false=>simp [h7] at hr
 | true=>
 simp only [h7] at hr
 cases hr
 obtain ⟨a1,a2⟩:=ziY hg
 have hctr:CtrO P f xs A v B:=by
  have:=hq f (xs,A) rfl
  cases A with
  | nil=>
   obtain ⟨b,q,_⟩:=a1 i0 (by rw [← hKe];exact List.mem_cons_self ..)
   cases q
  | cons y A=>simpa [CtrG,htk] using this
 have hKB:=zhR h6
 have hMK:∀ i,i∈K→M i=mg i:=fun i hi=>hm i (hKB i hi)
 refine ⟨fun _ _=>trivial,?_⟩
 rw [Oper.semAt_eq _ _ _ hd,hrun,hctr.1]
 refine ⟨fun e=>(by cases e),?_⟩
 classical
 obtain ⟨ρi,hρi⟩:∃ ρi:Rho,ρi=fun j=>if j∈K then ρ j else none:=⟨_,rfl⟩
 have hρid:∀ j,j∈K→ρi j=ρ j:=fun j hj=>by rw [hρi];simp [hj]
 have hρin:∀ j li,ρi j=some li→j∈K∧ρ j=some li:=fun j li h=>by
  rw [hρi] at h
  by_cases hj:j∈K
  · simp [hj] at h;exact ⟨hj,h⟩
  · simp [hj] at h
 have hrel:RelL h ρi xs vs:=⟨hx.1,fun i c v hc hv=>(hx.2 i c v hc hv).forget (ids:=K) hρid (za0 h1 hc)⟩
 have hOw:Ownd h ρi A w:=by
  refine ⟨fun j x hj=>?_,fun j hj=>?_,fun j li b q1 q2=>?_,fun j j' li li' b q1 q1' q2 q2'=>?_⟩
  · have hjK:j∈K:=Classical.byContradiction fun hn=>by rw [a2 j hn] at hj;cases hj
    obtain ⟨b,e1,e2⟩:=a1 j hjK
    rw [hj] at e1;cases e1
    exact (I.blk j x ((hMK j hjK).trans e2)).forget (ids:=K) hρid hjK (zfH h2 j x hj)
  · cases hp:ρi j with
    | none=>rfl
    | some li=>
     obtain ⟨hjK,_⟩:=hρin j li hp
     obtain ⟨b,e1,_⟩:=a1 j hjK
     rw [hj] at e1;cases e1
  · obtain ⟨_,q3⟩:=hρin j li q1
    obtain ⟨q4,q5,_⟩:=I.own j li b q3 q2
    exact ⟨q4,q5⟩
  · exact I.inj j j' li li' b (hρin j li q1).2 (hρin j' li' q1').2 q2 q2'
 refine zcV ((hctr.2 h w ρi vs hrel I.hp hOw).mono fun en w' he=>?_)
 cases en with
 | panicked ch=>exact he.elim
 | outgrown=>exact he.elim
 | returned x=>
 obtain ⟨h',ρ2,p1,p2,p3,p4,p5,p6,p7,p8,p9,p10,p11⟩:=he
 let ρ':Rho:=fun j=>if j∈zaC B then ρ2 j else ρ j
 have hin:∀ j,j∈zaC B→ρ' j=ρ2 j:=fun j hj=>if_pos hj
 have hout:∀ j,j ∉ zaC B→ρ' j=ρ j:=fun j hj=>if_neg hj
 have hfr:∀ j,j∈zaC B→j ∉ K→ρ j=none:=fun j hj hjK=>by
  rcases zfS h7 j hj with q|q
  · exact absurd q hjK
  · exact I.dom j ((hm j hj).trans q)
 refine hK x h' ρ' w' (I.step (S:=fun j=>j∈zaC B) p1 p2 p3 p4 (fun kk hkk hS=>p5 kk hkk (fun ho=>by
  obtain ⟨j,li,q1,q2⟩:=ho
  obtain ⟨q3,q4⟩:=hρin j li q1
  exact hS j li (hKB j q3) q4 q2)) hout ?_ p6 p7 (fun j hj=>zij hj) ?_ ?_ ?_ ?_) (p8.forget (ids:=zaC B) hin h3)
 · intro j li hj
   by_cases hjB:j∈zaC B
   · by_cases hjK:j∈K
     · obtain ⟨y,hy⟩:∃ y,mm B j=some y:=Option.isSome_iff_exists.1 (zdU.1 hjB)
       obtain ⟨li',e⟩:=(p9.blk j y hy).name
       exact ⟨li',(hin j hjB).trans e,p11 j li li' ((hρid j hjK).trans hj) e⟩
     · rw [hfr j hjB hjK] at hj;cases hj
   · exact ⟨li,(hout j hjB).trans hj,.inl rfl⟩
 · intro j hj hM
   rw [zfB h5 hj] at hM
   have:=zdU.1 hj
   rw [hM] at this;cases this
 · intro j y hj hM
   rw [zfB h5 hj] at hM
   exact (p9.blk j y hM).forget (ids:=zaC B) hin hj (zfH h4 j y hM)
 · intro j li b hj q1 q2
   rw [hin j hj] at q1
   rcases p10 j li b q1 q2 with ⟨j0,li0,q3,q4⟩|q3
   · obtain ⟨q5,q6⟩:=hρin j0 li0 q3
     exact .inl ⟨j0,li0,hKB j0 q5,q6,q4⟩
   · obtain ⟨q4,q5⟩:=p9.own j li b q1 q2
     exact .inr ⟨q3,q5,q4⟩
 · intro j j' li li' b hj hj' q1 q1' q2 q2'
   rw [hin j hj] at q1
   rw [hin j' hj'] at q1'
   exact p9.inj j j' li li' b q1 q1' q2 q2'
theorem zlg {h:Hp} {ρ:Rho} {K:List Nat}:∀ {cs:List AV},(zlh K cs).length=cs.length∧∀ (i:Nat) (c:AV) (v:Value),(zlh K cs)[i]? = some c→∃ c0,cs[i]? = some c0∧(Rel h ρ c0 v→Rel h ρ c v)
 | []=>⟨rfl,fun i c v h=>by simp [zlh] at h⟩
 | x::cs=>by
  obtain ⟨h1,h2⟩:=zlg (h:=h) (ρ:=ρ) (K:=K) (cs:=cs)
  refine ⟨by simp [zlh,h1],fun i c v hc=>?_⟩
  cases i with
  | zero=>
   refine ⟨x,rfl,fun hx=>?_⟩
   simp only [zlh,List.getElem?_cons_zero,Option.some.injEq] at hc
   subst hc
   split
   · split
     · exact .one _ _ (zc1 hx rfl).1
     · exact hx
   · exact hx
  | succ i=>
   simp only [zlh,List.getElem?_cons_succ] at hc
   exact h2 i c v hc
theorem zoj {h:Hp} {ρ:Rho} {K:List Nat} {xs:List AV} {vs:List Value} (H:RelL h ρ xs vs):RelL h ρ (zpm K xs) vs:=by
 induction xs generalizing vs with
 | nil=>exact H
 | cons x xs ih=>
  obtain ⟨v,r,rfl,h1,h2⟩:=H.zdC
  refine RelL.cons ?_ (ih h2)
  split
  · cases h1 with
    | agg _ _ us hl hc=>
     obtain ⟨k1,k2⟩:=zlg (h:=h) (ρ:=ρ) (K:=K)
     refine .agg _ _ _ (by rw [hl,k1]) fun i c u hi hu=>?_
     obtain ⟨c0,e1,e2⟩:=k2 i c u hi
     exact e2 (hc i c0 u e1 hu)
  · exact h1
theorem zlv (I:InvH N C h ρ F M g a w) {f:Operand} {args:Array Operand} {ts:Array TypeId} (ho:o.op = .call { callee:=.value f,args:=args,argTypes:=ts }) {val:Operand→AV} (hv:∀ y,y∈o.op.operands→Rel h ρ (val y) (a.eval y)) {own:List Nat} {rv:RV} {r:R}
 (hr:evalOp Γ own val mg o (some rv)=some r) (hm:∀ id,id∈r.rd→M id=mg id) (hc:∀ q,r.cs=some q→q) (hq:∀ gf xs,r.rq=some (gf,xs)→CtrG P gf xs rv.v rv.B):zjY P N C F M g a o w r.v r.wr:=by
 have hd:∀ c,o.op ≠ .defer c:=fun c e=>by rw [ho] at e;cases e
 have hf:=hv f (by rw [ho];simp [Op.operands,Call.operands])
 have hargs:=zdZ args.toList (fun x hx=>hv x (zdY ho hx))
 unfold evalOp at hr
 simp only [ho] at hr
 cases hvf:val f <;> simp only [hvf] at hr <;> (try (cases hr;done))
 case fn k fs cs=>
  rw [hvf] at hf
  cases k <;> (try simp only [] at hr) <;> (try (cases hr;done))
  rename_i gf
  generalize hef:a.eval f=u at hf
  cases hf with
  | fn _ _ _ _ us ws hl1 hl2 hc1 hc2=>
  have hall:RelL h ρ (fs++(zfb val args.toList++cs)) (us++(args.toList.map a.eval++ws)):=RelL.append ⟨hl1,hc1⟩ (RelL.append hargs ⟨hl2,hc2⟩)
  unfold zoD at hr
  simp only [zdg] at hr
  cases htk:takes rv.B with
  | some id=>
   simp only [htk] at hr
   exact zoN I (zgf ho hef w) hd htk hr hm hq hall
  | none=>
  simp only [htk] at hr
  cases hKr:rv.K with
  | cons i0 K0=>
   simp only [hKr] at hr
   cases hhd:hidden (i0::K0) with
   | false=>
    simp only [hhd] at hr
    exact zoO I (zgf ho hef w) hd htk hr hm hq hall
   | true=>
   simp only [hhd] at hr
   cases hvl:zgu mg (zpm (i0::K0) (fs++(zfb val args.toList++cs))) with
   | none=>simp only [hvl] at hr;cases hr
   | some q=>
   obtain ⟨xs',rd,c⟩:=q
   simp only [hvl] at hr
   obtain ⟨e1,e2,e3⟩:=zku hr
   exact zjf I (zgf ho hef w) hd hr hm (hq _ _ e2) (fun H2 hLe hH hrd=>ze3 I hLe (zoj hall) hvl (fun id hid=>by
    rcases e3 with e3|e3
    · subst e3;cases hid
    · exact hm id (e3▸hid)) (fun q hq=>hc q (e1.trans hq)) hH)
  | nil=>
  simp only [hKr] at hr
  cases hvl:zgu mg (fs++(zfb val args.toList++cs)) with
  | none=>simp only [hvl] at hr;cases hr
  | some q=>
  obtain ⟨xs',rd,c⟩:=q
  simp only [hvl] at hr
  obtain ⟨e1,e2,e3⟩:=zku hr
  exact zjf I (zgf ho hef w) hd hr hm (hq _ _ e2) (fun H2 hLe hH hrd=>ze3 I hLe hall hvl (fun id hid=>by
   rcases e3 with e3|e3
   · subst e3;cases hid
   · exact hm id (e3▸hid)) (fun q hq=>hc q (e1.trans hq)) hH)
 case clo k fs cs=>
  rw [hvf] at hf
  cases k <;> (try simp only [] at hr) <;> (try (cases hr;done))
  rename_i gf
  generalize hef:a.eval f=u at hf
  cases hf with
  | clo _ _ _ _ _ hf=>
  cases hf with
  | fn _ _ _ _ us ws hl1 hl2 hc1 hc2=>
  unfold zp9 at hr
  simp only [zdg] at hr
  cases htk:takes rv.B with
  | some id=>simp only [htk] at hr;cases hr
  | none=>
  simp only [htk] at hr
  cases hvl:zgu mg (zfb val args.toList) with
  | none=>simp only [hvl] at hr;cases hr
  | some q=>
  obtain ⟨xs',rd,c⟩:=q
  simp only [hvl] at hr
  obtain ⟨e1,e2,e3⟩:=zku hr
  exact zjf I (zgf ho hef w) hd hr hm (hq _ _ e2) (fun H2 hLe hH hrd=>RelL.append (RelL.heap ⟨hl1,hc1⟩ hLe) (RelL.append (ze3 I hLe hargs hvl (fun id hid=>by
   rcases e3 with e3|e3
   · subst e3;cases hid
   · exact hm id (e3▸hid)) (fun q hq=>hc q (e1.trans hq)) hH) (RelL.heap ⟨hl2,hc2⟩ hLe)))
end
end Go.Av
end
/- Regions: operations under guards; one after another; in any order. -/
section
set_option linter.all false
namespace Go.Av
def evO (F:Fr):Operand→AV
 | .tmp t=>F t
 | .const v=>zeL v
 | .func f=>.fn (.func f) [] []
 | .global _=>.any
def zfE:AV→AV
 | .cnd _ v=>v
 | v=>v
def needs (F:Fr) (W:Bool):List Operand→List Prop
 | []=>[]
 | x::r=>match evO F x with
  | .cnd G _=>(W=true→G=true)::needs F W r
  | _=>needs F W r
inductive Gd where
 | free|on (W:Bool)
def guardOf (ops:List Oper) (F:Fr) (o:Oper):Option Gd:=match o.guard with
 | none=>some .free
 | some (j,pol)=>match nthN j ops with
  | some oj=>match oj.dst with
   | some d=>match F d with
    | .bool b=>match pol with
     | true=>some (.on b)
     | false=>some (.on (!b))
    | .cnd G (.bool b)=>match pol with
     | true=>some (.on (G && b))
     | false=>some (.on (G && !b))
    | _=>none
   | none=>none
  | none=>none
def BSim (x y:Blk):Prop:=∀ h ρ id w,zbJ h ρ id x w→zbJ h ρ id y w
theorem BSim.refl (x:Blk):BSim x x:=fun _ _ _ _ h=>h
theorem BSim.of_eq {x y:Blk} (h:x=y):BSim x y:=h▸BSim.refl x
def backs (mg:Mm) (W:Bool):List (Nat×Blk)→Option (List Prop)
 | []=>some []
 | (i,b)::r=>match mg i with
  | some b0=>match backs mg W r with
   | some l=>some ((W=false→BSim b0 b)::l)
   | none=>none
  | none=>none
structure OpRes where
 v:AV
 rd:List Nat
 wr:List (Nat×Blk)
 cs:List Prop
 rq:Option (Option Bool×FuncId×List AV×List (Nat×Blk))
def zd5 (F:Fr) (q:Prop) (x:Operand):Option (Bool×List Prop):=match evO F x with
 | .bool a=>some (a,[])
 | .cnd G (.bool a)=>some (a,[q→G=true])
 | _=>none
def zgM (p a b:Bool) (x y:Operand):Option Bool:=match y with
 | .const (.bool false)=>some (p && a)
 | _=>match x with
  | .const (.bool true)=>some (p || b)
  | _=>some (bif p then a else b)
def zkv (F:Fr) (c x y:Operand):Option (Bool×Option Bool×List Prop):=match evO F c with
 | .bool p=>match zd5 F (p=true) x with
  | some (a,l1)=>match zd5 F (p=false) y with
   | some (b,l2)=>match zgM p a b x y with
    | some v=>match l1 with
     | []=>some (v,none,l2)
     | q::_=>some (v,none,q::l2)
    | none=>none
   | none=>none
  | none=>none
 | .cnd G (.bool p)=>match zd5 F (p=true) x with
  | some (a,l1)=>match zd5 F (p=false) y with
   | some (b,l2)=>match zgM p a b x y with
    | some v=>match l1 with
     | []=>some (v,some G,l2)
     | q::_=>some (v,some G,q::l2)
    | none=>none
   | none=>none
  | none=>none
 | _=>none
def under (W:Bool):List Prop→List Prop
 | []=>[]
 | q::r=>(W=true→q)::under W r
def opR (Γ:Tys) (own:List Nat) (ops:List Oper) (F:Fr) (M:Mm) (o:Oper) (rv:Option RV):Option OpRes:=match guardOf ops F o with
 | none=>none
 | some .free=>match o.op with
  | .pick c x y=>match zkv F c x y with
   | some (b,none,cs)=>some ⟨.bool b,[],[],cs,none⟩
   | _=>none
  | _=>match evalOp Γ own (evO F) M o rv with
   | some ⟨v,rd,wr,c,q⟩=>match c with
    | none=>match q with
     | none=>some ⟨v,rd,wr,[],none⟩
     | some (f,xs)=>some ⟨v,rd,wr,[],some (none,f,xs)⟩
    | some c=>match q with
     | none=>some ⟨v,rd,wr,[c],none⟩
     | some (f,xs)=>some ⟨v,rd,wr,[c],some (none,f,xs)⟩
   | none=>none
 | some (.on W)=>match o.op with
  | .pick c x y=>match zkv F c x y with
   | some (b,none,cs)=>some ⟨.cnd W (.bool b),[],[],under W cs,none⟩
   | some (b,some G,cs)=>some ⟨.cnd W (.bool b),[],[],(W=true→G=true)::under W cs,none⟩
   | none=>none
  | _=>match evalOp Γ own (fun y=>zfE (evO F y)) M o rv with
   | some ⟨v,rd,wr,c,q⟩=>match wr with
    | []=>match c with
     | none=>match q with
      | none=>some ⟨.cnd W v,rd,[],needs F W o.op.operands.toList,none⟩
      | some (f,xs)=>some ⟨.cnd W v,rd,[],needs F W o.op.operands.toList,some (some W,f,xs)⟩
     | some c=>match q with
      | none=>some ⟨.cnd W v,rd,[],(W=true→c)::needs F W o.op.operands.toList,none⟩
      | some (f,xs)=>some ⟨.cnd W v,rd,[],(W=true→c)::needs F W o.op.operands.toList,some (some W,f,xs)⟩
    | _::_=>match znz rd (zaC wr) with
     | true=>match zfI (zaC wr) with
      | true=>match backs M W wr with
       | some bs=>match c with
        | none=>match q with
         | some (f,xs)=>some ⟨.cnd W v,rd,wr,bs++needs F W o.op.operands.toList,some (some W,f,xs)⟩
         | none=>none
        | some _=>none
       | none=>none
      | false=>none
     | false=>none
   | none=>none
inductive AllP:List Prop→Prop
 | nil:AllP []
 | cons {q:Prop} {r:List Prop}:q→AllP r→AllP (q::r)
theorem AllP.mem {l:List Prop} (H:AllP l):∀ q,q∈l→q:=by
 induction H with
 | nil=>intro q hq;cases hq
 | cons h _ ih=>
  intro q hq
  cases hq with
  | head=>exact h
  | tail _ hq=>exact ih q hq
theorem zfJ {F:Fr} {W:Bool}:∀ {xs:List Operand} {x:Operand} {G:Bool} {v:AV},x∈xs→evO F x = .cnd G v→(W=true→G=true)∈needs F W xs
 | y::ys,x,G,v,hx,he=>by
  unfold needs
  rcases List.mem_cons.1 hx with rfl|hx
  · rw [he];exact List.mem_cons_self ..
  · have:=zfJ (W:=W) hx he
    split
    · exact List.mem_cons_of_mem _ this
    · exact this
theorem ziy {W:Bool}:∀ {l:List Prop} {q:Prop},q∈l→(W=true→q)∈under W l
 | y::ys,q,hq=>by
  unfold under
  rcases List.mem_cons.1 hq with rfl|hq
  · exact List.mem_cons_self ..
  · exact List.mem_cons_of_mem _ (ziy hq)
section
variable {P:Program} {N:Nat} {Γ:Tys} {own:List Nat} {ops:Array Oper}
def OpOk (Z:Ctx→Prop) (P:Program) (N:Nat) (ops:Array Oper) (F:Fr) (M:Mm) (o:Oper) (r:OpRes):Prop:=
 ∀ (C:Ctx),Z C→∀ (h:Hp) (ρ:Rho) (F':Fr) (M':Mm) (g:Nat) (a:Act) (w:World),InvH N C h ρ F' M' g a w→(∀ t,t∈o.looksAt ops→F' t=F t)→(∀ id,id∈r.rd→M' id=M id) →
  ∀ (rr:Option Nat) (n:Nat) (K:Act→World→Prop) (Q:Exit→Act→World→Prop),(∀ x h' ρ' w',InvH N C h' ρ' F' (updL M' r.wr) g a w'→Rel h' ρ' r.v x→K (a.put o.dst x) w') →
   if Region.wanted o (yielded ops a.tmps) then o.wpIn (Fw rr) n P a w K Q else (∀ f,o.about P w a.eval=some f→(Fw rr).fn f)∧K (a.put o.dst undef) w
theorem zn5 {o:Oper} {t:Nat} (h:Operand.tmp t∈o.op.operands):t∈o.looksAt ops:=
 List.mem_append_left _ (List.mem_filterMap.2 ⟨.tmp t,by simpa using h,rfl⟩)
theorem zfU {C:Ctx} {h:Hp} {ρ:Rho} {F F':Fr} {M':Mm} {g:Nat} {a:Act} {w:World} {o:Oper} (I:InvH N C h ρ F' M' g a w) (hF:∀ t,t∈o.looksAt ops→F' t=F t) {y:Operand} (hy:y∈o.op.operands):Rel h ρ (evO F y) (a.eval y):=by
 cases y with
 | tmp t=>
  have:=I.slot t
  rw [hF t (zn5 hy)] at this
  exact this
 | const v=>exact Rel.zeL h ρ v
 | func f=>exact .fn _ _ _ _ [] [] rfl rfl (fun i c v hc=>by simp at hc) (fun i c v hc=>by simp at hc)
 | global g=>exact .any _ _
theorem zly {C:Ctx} {h:Hp} {ρ:Rho} {F':Fr} {M':Mm} {g:Nat} {a:Act} {w:World} (I:InvH N C h ρ F' M' g a w) {d:Nat} {b:Bool} (hb:Rel h ρ (.bool b) (a.tmps.getD d undef)):a.tmps[d]? = some (.bool b):=by
 cases hd:a.tmps[d]? with
 | none=>
  simp [hd] at hb
  cases hb
 | some x=>
  simp [hd] at hb
  cases hb;rfl
theorem zkg {C:Ctx} {h:Hp} {ρ:Rho} {F F':Fr} {M':Mm} {g:Nat} {a:Act} {w:World} {o:Oper} (I:InvH N C h ρ F' M' g a w) (hF:∀ t,t∈o.looksAt ops→F' t=F t) {gd:Gd} (hg:guardOf ops.toList F o=some gd) :
 (gd = .free→Region.wanted o (yielded ops a.tmps)=true)∧∀ W,gd = .on W→Region.wanted o (yielded ops a.tmps)=W:=by
 unfold guardOf at hg
 cases ho:o.guard with
 | none=>
  simp only [ho] at hg;cases hg
  exact ⟨fun _=>by unfold Region.wanted;rw [ho],fun W h=>by cases h⟩
 | some jp=>
 obtain ⟨j,pol⟩:=jp
 simp only [ho] at hg
 cases hj:nthN j ops.toList with
 | none=>simp [hj] at hg
 | some oj=>
 simp only [hj] at hg
 cases hd:oj.dst with
 | none=>simp [hd] at hg
 | some d=>
 simp only [hd] at hg
 have hjo:ops[j]? = some oj:=by rw [← Array.getElem?_toList];exact ze8 hj
 have hlook:d∈o.looksAt ops:=by
  refine List.mem_append_right _ ?_
  rw [ho];simp [hjo,hd]
 have hsl:=I.slot d
 rw [hF d hlook] at hsl
 have hw:∀ b,a.tmps[d]? = some (.bool b)→Region.wanted o (yielded ops a.tmps)=(b == pol):=by
  intro b hb
  unfold Region.wanted
  rw [ho]
  simp only [yielded,hjo,Option.bind_some,hd,hb]
  cases b <;> cases pol <;> rfl
 have hun:a.tmps.getD d undef=undef→Region.wanted o (yielded ops a.tmps)=false:=by
  intro hu
  unfold Region.wanted
  rw [ho]
  have:yielded ops a.tmps j=none:=by
   unfold yielded
   simp only [hjo,Option.bind_some,hd]
   cases ht:a.tmps[d]? with
   | none=>rfl
   | some x=>
    simp [ht] at hu
    subst hu;rfl
  simp only [this]
  rfl
 cases hFd:F d <;> simp only [hFd] at hg <;> (try (cases hg;done))
 case bool b=>
  rw [hFd] at hsl
  have:=hw b (zly I hsl)
  cases pol <;> simp only [] at hg <;> cases hg <;> refine ⟨fun h=>(by cases h),fun W h=>?_⟩ <;> cases h <;> rw [this] <;> cases b <;> rfl
 case cnd G v=>
  rw [hFd] at hsl
  cases v <;> simp only [] at hg <;> (try (cases hg;done))
  rename_i b
  cases hsl with
  | cnd _ _ _ _ ht hf=>
  cases G with
  | true=>
   have:=hw b (zly I (ht rfl))
   cases pol <;> simp only [] at hg <;> cases hg <;> refine ⟨fun h=>(by cases h),fun W h=>?_⟩ <;> cases h <;> rw [this] <;> cases b <;> rfl
  | false=>
   have:=hun (hf rfl)
   cases pol <;> simp only [] at hg <;> cases hg <;> refine ⟨fun h=>(by cases h),fun W h=>?_⟩ <;> cases h <;> rw [this] <;> rfl
theorem znb {p a b v:Bool} {x y:Operand} (h:zgM p a b x y=some v) (hx:∀ u,x = .const (.bool u)→a=u) (hy:∀ u,y = .const (.bool u)→b=u):v=bif p then a else b:=by
 unfold zgM at h
 split at h
 · cases h
   have:=hy false rfl
   subst this
   cases p <;> rfl
 · split at h
   · cases h
     have:=hx true rfl
     subst this
     cases p <;> rfl
   · cases h;rfl
theorem ze6 {C:Ctx} {h:Hp} {ρ:Rho} {F F':Fr} {M':Mm} {g:Nat} {a:Act} {w:World} {o:Oper} (I:InvH N C h ρ F' M' g a w) (hF:∀ t,t∈o.looksAt ops→F' t=F t) {y:Operand} (hy:y∈o.op.operands) {q:Prop} {b:Bool} {l:List Prop}
 (hp:zd5 F q y=some (b,l)):l.length≤1∧((∀ p,p∈l→p)→q→a.eval y = .bool b)∧∀ u,y = .const (.bool u)→b=u:=by
 have hr:=zfU I hF hy
 unfold zd5 at hp
 cases he:evO F y <;> simp only [he] at hp <;> (try (cases hp;done))
 case bool b'=>
  cases hp
  rw [he] at hr
  refine ⟨by simp,fun _ _=>?_,fun u hu=>?_⟩
  · generalize a.eval y=z at hr;cases hr;rfl
  · subst hu;simp [evO,zeL] at he;exact he.symm
 case cnd G v=>
  cases v <;> simp only [] at hp <;> (try (cases hp;done))
  rename_i b'
  cases hp
  rw [he] at hr
  refine ⟨by simp,fun hl hq=>?_,fun u hu=>?_⟩
  · cases hr with
    | cnd _ _ _ _ ht hf=>
    have:=ht (hl (q→G=true) (by simp) hq)
    generalize a.eval y=z at this;cases this;rfl
  · subst hu;simp [evO,zeL] at he
theorem zfg {C:Ctx} {h:Hp} {ρ:Rho} {F F':Fr} {M':Mm} {g:Nat} {a:Act} {w:World} {o:Oper} {c x y:Operand} (I:InvH N C h ρ F' M' g a w) (hF:∀ t,t∈o.looksAt ops→F' t=F t) (ho:o.op = .pick c x y) {v:Bool} {G:Option Bool} {l:List Prop}
 (hp:zkv F c x y=some (v,G,l)) (hl:∀ q,q∈l→q) (hG:∀ b,G=some b→b=true):(execOp a.eval o).run P w = .ok (.value (.bool v)) w:=by
 have hc:c∈o.op.operands:=by rw [ho];simp [Op.operands]
 have hx:x∈o.op.operands:=by rw [ho];simp [Op.operands]
 have hy:y∈o.op.operands:=by rw [ho];simp [Op.operands]
 have hcr:=zfU I hF hc
 have key:∀ p a' b' l1 l2,a.eval c = .bool p→zd5 F (p=true) x=some (a',l1)→zd5 F (p=false) y=some (b',l2)→zgM p a' b' x y=some v→(∀ q,q∈l1→q)→(∀ q,q∈l2→q) →
  (execOp a.eval o).run P w = .ok (.value (.bool v)) w:=by
  intro p a' b' l1 l2 he h1 h2 h3 hl1 hl2
  obtain ⟨_,ha,hau⟩:=ze6 I hF hx h1
  obtain ⟨_,hb,hbu⟩:=ze6 I hF hy h2
  have hv:=znb h3 hau hbu
  subst hv
  unfold execOp
  simp only [ho,he]
  cases p with
  | true=>rw [ha hl1 rfl];rfl
  | false=>rw [hb hl2 rfl];rfl
 have fin:∀ p G',a.eval c = .bool p→(match zd5 F (p=true) x with
  | some (a,l1)=>match zd5 F (p=false) y with
   | some (b,l2)=>match zgM p a b x y with
    | some v=>match l1 with
     | []=>some (v,G',l2)
     | q::_=>some (v,G',q::l2)
    | none=>none
   | none=>none
  | none=>none)=some (v,G,l)→(execOp a.eval o).run P w = .ok (.value (.bool v)) w:=by
  intro p G' he hp
  cases h1:zd5 F (p=true) x with
  | none=>simp [h1] at hp
  | some q1=>
  obtain ⟨a',l1⟩:=q1
  simp only [h1] at hp
  cases h2:zd5 F (p=false) y with
  | none=>simp [h2] at hp
  | some q2=>
  obtain ⟨b',l2⟩:=q2
  simp only [h2] at hp
  cases h3:zgM p a' b' x y with
  | none=>simp [h3] at hp
  | some v'=>
  simp only [h3] at hp
  have hlen:=(ze6 I hF hx h1).1
  cases l1 with
  | nil=>
   simp only [] at hp;cases hp
   exact key p a' b' [] _ he h1 h2 h3 nofun hl
  | cons q1 l1=>
   simp only [] at hp;cases hp
   have:l1=[]:=by simpa using hlen
   subst this
   exact key p a' b' [q1] _ he h1 h2 h3 (fun q hq=>hl q (by simp at hq;simp [hq])) (fun q hq=>hl q (by simp [hq]))
 unfold zkv at hp
 cases hec:evO F c <;> simp only [hec] at hp <;> (try (cases hp;done))
 case bool p=>
  rw [hec] at hcr
  exact fin p none (by generalize a.eval c=z at hcr;cases hcr;rfl) hp
 case cnd G0 v0=>
  cases v0 <;> simp only [] at hp <;> (try (cases hp;done))
  rename_i p
  rw [hec] at hcr
  have hG0:G=some G0:=by
   split at hp
   · split at hp
     · split at hp
       · split at hp <;> cases hp <;> rfl
       · cases hp
     · cases hp
   · cases hp
  have:=hG _ hG0
  subst this
  cases hcr with
  | cnd _ _ _ _ ht hf=>
  have:=ht rfl
  exact fin p (some true) (by generalize a.eval c=z at this;cases this;rfl) hp
theorem InvH.bsim {C:Ctx} {h:Hp} {ρ:Rho} {F:Fr} {g:Nat} {a:Act} {w:World}:∀ {wr:List (Nat×Blk)} {M:Mm},zfI (zaC wr)=true→(∀ i,i∈zaC wr→∃ b0 b,M i=some b0∧mm wr i=some b∧BSim b0 b)→InvH N C h ρ F M g a w→InvH N C h ρ F (updL M wr) g a w:=by
 intro wr M hn H I
 refine { I with blk:=fun id x hx=>?_,dom:=fun id hx=>?_ }
 · by_cases hi:id∈zaC wr
   · rw [zfB hn hi] at hx
     obtain ⟨b0,b,h1,h2,h3⟩:=H id hi
     rw [hx] at h2;cases h2
     exact h3 _ _ _ _ (I.blk id b0 h1)
   · rw [zij hi] at hx
     exact I.blk id x hx
 · by_cases hi:id∈zaC wr
   · rw [zfB hn hi] at hx
     obtain ⟨b0,b,h1,h2,h3⟩:=H id hi
     rw [hx] at h2;cases h2
   · rw [zij hi] at hx
     exact I.dom id hx
theorem zjS {mg:Mm} {W:Bool}:∀ {wr:List (Nat×Blk)} {bs:List Prop},backs mg W wr=some bs→(∀ q,q∈bs→q)→W=false→zfI (zaC wr)=true→∀ i,i∈zaC wr→∃ b0 b,mg i=some b0∧mm wr i=some b∧BSim b0 b
 | [],bs,_,_,_,_,i,hi=>by cases hi
 | (j,b)::r,bs,h,hq,hW,hn,i,hi=>by
  obtain ⟨n1,n2⟩:=zgj (i:=j) (r:=zaC r) hn
  simp only [backs] at h
  split at h
  · rename_i b0 hb0
    split at h
    · rename_i l hl
      cases h
      rcases List.mem_cons.1 hi with rfl|h3
      · exact ⟨b0,b,hb0,by simp [mm,upd],hq _ (List.mem_cons_self ..) hW⟩
      · obtain ⟨c0,c,e1,e2,e3⟩:=zjS hl (fun q hq'=>hq q (List.mem_cons_of_mem _ hq')) hW n2 i h3
        refine ⟨c0,c,e1,?_,e3⟩
        have hne:i≠j:=fun e=>n1 (e▸h3)
        simp only [mm]
        rw [zae _ _ hne]
        exact e2
    · cases h
  · cases h
theorem zkX (hΓ:zbb P Γ) (hdep:8≤P.depth) {F:Fr} {M:Mm} {o:Oper} {rv:Option RV} {r:OpRes} (hr:opR Γ own ops.toList F M o rv=some r) (hcs:∀ q,q∈r.cs→q)
 (hrq:∀ gd f xs rv0,r.rq=some (gd,f,xs)→rv=some rv0→(∀ W,gd=some W→W=true)→CtrG P f xs rv0.v rv0.B) (hnd:∀ c,o.op ≠ .defer c):OpOk (FzOk own) P N ops F M o r:=by
 intro C hz h ρ F' M' g a w I hF hM rr n K Q hK
 unfold opR at hr
 cases hgd:guardOf ops.toList F o with
 | none=>rw [hgd] at hr;simp at hr
 | some gd=>
 obtain ⟨hfree,hon⟩:=zkg I hF hgd
 rw [hgd] at hr
 -- what a sound operation gives
 have fin:∀ {val:Operand→AV} {r0:R},evalOp Γ own val M o rv=some r0→(∀ y,y∈o.op.operands→Rel h ρ (val y) (a.eval y))→(∀ id,id∈r0.rd→M' id=M id)→(∀ q,r0.cs=some q→q) →
  (∀ f xs rv0,r0.rq=some (f,xs)→rv=some rv0→CtrG P f xs rv0.v rv0.B)→zjY P N C F' M' g a o w r0.v r0.wr:=by
  intro val r0 he hv hm hc hq
  cases hcall:zh0 o.op with
  | false=>exact (zlq hΓ hdep I hv he hm hc hcall hz).zmq hnd
  | true=>
   have:∃ f args ts,o.op = .call ⟨.value f,args,ts⟩:=by
    cases ho:o.op <;> rw [ho] at hcall <;> (try (simp [zh0] at hcall;done))
    rename_i c
    obtain ⟨callee,args,ts⟩:=c
    cases callee <;> first|exact ⟨_,_,_,rfl⟩|(simp [zh0] at hcall;done)
   obtain ⟨f,args,ts,ho⟩:=this
   cases rv with
   | none=>
    exfalso
    unfold evalOp at he
    simp only [ho] at he
    split at he <;> simp [zoD,zp9] at he
   | some rv0=>exact zlv I ho hv he hm hc (fun f xs h=>hq f xs rv0 h rfl)
 cases gd with
 | free=>
  rw [if_pos (hfree rfl)]
  simp only [] at hr
  split at hr
  · rename_i c x y ho
    split at hr
    · rename_i b cs hp
      cases hr
      have hrun:=zfg (P:=P) (w:=w) I hF ho hp hcs (fun b hb=>by cases hb)
      exact (Good.same (r:=⟨.bool b,[],[],none,none⟩) I (.inl hrun) rfl (.bool _ _)).zmq hnd rr n K Q hK
    · cases hr
  · split at hr
    · rename_i v rd wr c q he
      have hv:∀ y,y∈o.op.operands→Rel h ρ (evO F y) (a.eval y):=fun y hy=>zfU I hF hy
      cases c with
      | none=>
       cases q with
       | none=>simp only [] at hr;cases hr;exact fin he hv hM nofun (fun f xs rv0 hq=>by cases hq) rr n K Q hK
       | some fx=>simp only [] at hr;cases hr;exact fin he hv hM nofun (fun f xs rv0 hq hv=>by cases hq;exact hrq none _ _ rv0 rfl hv (fun W hW=>by cases hW)) rr n K Q hK
      | some c=>
       have hc:∀ q,some c=some q→q:=fun q hq=>by
        cases hq
        cases q <;> simp only [] at hr <;> cases hr <;> exact hcs _ (by simp)
       cases q with
       | none=>simp only [] at hr;cases hr;exact fin he hv hM hc (fun f xs rv0 hq=>by cases hq) rr n K Q hK
       | some fx=>simp only [] at hr;cases hr;exact fin he hv hM hc (fun f xs rv0 hq hv=>by cases hq;exact hrq none _ _ rv0 rfl hv (fun W hW=>by cases hW)) rr n K Q hK
    · cases hr
 | on W=>
  have hw:=hon W rfl
  rw [hw]
  simp only [] at hr
  split at hr
  · rename_i c x y ho
    split at hr
    · rename_i b cs hp
      cases hr
      cases W with
      | false=>exact ⟨fun _ _=>trivial,hK _ h ρ w I (.cnd _ _ _ _ (fun e=>by cases e) (fun _=>rfl))⟩
      | true=>
       rw [if_pos rfl]
       have hrun:=zfg (P:=P) (w:=w) I hF ho hp (fun q hq=>hcs _ (ziy hq) rfl) (fun b hb=>by cases hb)
       exact (Good.same (r:=⟨.cnd true (.bool b),[],[],none,none⟩) I (.inl hrun) rfl (.cnd _ _ _ _ (fun _=>.bool _ _) (fun e=>by cases e))).zmq hnd rr n K Q hK
    · rename_i b G cs hp
      cases hr
      cases W with
      | false=>exact ⟨fun _ _=>trivial,hK _ h ρ w I (.cnd _ _ _ _ (fun e=>by cases e) (fun _=>rfl))⟩
      | true=>
       rw [if_pos rfl]
       have hrun:=zfg (P:=P) (w:=w) I hF ho hp (fun q hq=>hcs _ (List.mem_cons_of_mem _ (ziy hq)) rfl) (fun b hb=>by cases hb;exact hcs _ (List.mem_cons_self ..) rfl)
       exact (Good.same (r:=⟨.cnd true (.bool b),[],[],none,none⟩) I (.inl hrun) rfl (.cnd _ _ _ _ (fun _=>.bool _ _) (fun e=>by cases e))).zmq hnd rr n K Q hK
    · cases hr
  · split at hr
    · rename_i v rd wr c q he
      cases wr with
      | cons x0 l0=>
       obtain ⟨wr,hwr⟩:∃ wr,x0::l0=wr:=⟨_,rfl⟩
       simp only [] at hr
       rw [hwr] at hr he
       split at hr
       · rename_i ha
         split at hr
         · rename_i hn
           split at hr
           · rename_i bs hbs
             split at hr
             · split at hr
               · rename_i f xs
                 cases hr
                 have hkm:∀ i,i∈zaC wr→M' i=M i:=fun i hi=>hM i (zhR ha i hi)
                 cases W with
                 | false=>
                  refine ⟨fun _ _=>trivial,hK _ h ρ w (I.bsim hn (fun i hi=>?_)) (.cnd _ _ _ _ (fun e=>by cases e) (fun _=>rfl))⟩
                  obtain ⟨b0,b,e1,e2,e3⟩:=zjS hbs (fun q hq=>hcs q (List.mem_append_left _ hq)) rfl hn i hi
                  exact ⟨b0,b,(hkm i hi).trans e1,e2,e3⟩
                 | true=>
                  rw [if_pos rfl]
                  have hv:∀ y,y∈o.op.operands→Rel h ρ (zfE (evO F y)) (a.eval y):=fun y hy=>by
                   have:=zfU I hF hy
                   cases he:evO F y <;> rw [he] at this <;> simp only [zfE] <;> try exact this
                   rename_i G u
                   cases this with
                   | cnd _ _ _ _ ht hf=>exact ht (hcs _ (List.mem_append_right _ (zfJ (by simpa using hy) he)) rfl)
                  refine fin he hv hM nofun (fun f xs rv0 hq0 hrv0=>by cases hq0;exact hrq (some true) f xs rv0 rfl hrv0 (fun W hW=>by cases hW;rfl)) rr n K Q (fun x h' ρ' w' I' hr'=>hK x h' ρ' w' I' ?_)
                  exact .cnd _ _ _ _ (fun _=>hr') (fun e=>by cases e)
               · cases hr
             · cases hr
           · cases hr
         · cases hr
       · cases hr
      | nil=>
      simp only [] at hr
      have hrv:r.v = .cnd W v∧r.wr=[]∧r.rd=rd:=by
       cases c <;> cases q <;> simp only [] at hr <;> cases hr <;> exact ⟨rfl,rfl,rfl⟩
      obtain ⟨e1,e2,e3⟩:=hrv
      cases W with
      | false=>exact ⟨fun _ _=>trivial,hK _ h ρ w (by rw [e2];exact I) (by rw [e1];exact .cnd _ _ _ _ (fun e=>by cases e) (fun _=>rfl))⟩
      | true=>
       rw [if_pos rfl]
       have hneed:∀ q,q∈needs F true o.op.operands.toList→q:=fun q0 hq0=>by
        cases c <;> cases q <;> simp only [] at hr <;> cases hr <;> first|exact hcs _ hq0|exact hcs _ (List.mem_cons_of_mem _ hq0)
       have hv:∀ y,y∈o.op.operands→Rel h ρ (zfE (evO F y)) (a.eval y):=fun y hy=>by
        have:=zfU I hF hy
        cases he:evO F y <;> rw [he] at this <;> simp only [zfE] <;> try exact this
        rename_i G u
        cases this with
        | cnd _ _ _ _ ht hf=>exact ht (hneed _ (zfJ (by simpa using hy) he) rfl)
       have hc:∀ q,c=some q→q:=fun q0 hq0=>by
        subst hq0
        cases q <;> simp only [] at hr <;> cases hr <;> first|exact hcs _ (List.mem_cons_self ..) rfl|exact hcs _ (List.mem_cons_self ..) trivial
       have hq:∀ f xs rv0,q=some (f,xs)→rv=some rv0→CtrG P f xs rv0.v rv0.B:=fun f xs rv0 hq0 hrv0=>by
        subst hq0
        cases c <;> simp only [] at hr <;> cases hr <;> exact hrq (some true) f xs rv0 rfl hrv0 (fun W hW=>by cases hW;rfl)
       refine fin he hv (fun id hid=>hM id (by rw [e3];exact hid)) hc hq rr n K Q (fun x h' ρ' w' I' hr'=>hK x h' ρ' w' (by rw [e2];exact I') ?_)
       rw [e1]
       exact .cnd _ _ _ _ (fun _=>hr') (fun e=>by cases e)
    · cases hr
end
end Go.Av
end
/- Regions, part 2: one after another; in any order. -/
section
set_option linter.all false
namespace Go.Av
def fr:List (Nat×AV)→Fr
 | []=>fun _=>.any
 | (d,v)::r=>put (fr r) d v
def setL:Option Tmp→AV→List (Nat×AV)→List (Nat×AV)
 | some d,v,L=>(d,v)::L
 | none,_,L=>L
theorem zon (d:Option Tmp) (v:AV) (L:List (Nat×AV)):fr (setL d v L)=putO (fr L) d v:=by cases d <;> rfl
def zlY:Op→Bool
 | .defer _=>true
 | _=>false
structure Acc where
 L:List (Nat×AV)
 M:List (Nat×Blk)
 cs:List Prop
 rq:List (Option Bool×FuncId×(List AV×List (Nat×Blk))×RV)
 ft:List (List Nat×List Nat)
def appP:List Prop→List Prop→List Prop
 | [],l=>l
 | q::r,l=>q::appP r l
def zoo {β:Type}:Blk→(Blk→β)→β
 | .cells cs,f=>zea cs fun cs=>f (.cells cs)
 | .buf ty sz n e,f=>f (.buf ty sz n e)
 | .map z dom e n,f=>f (.map z dom e n)
 | .dead,f=>f .dead
 | .iter e cur Pl,f=>f (.iter e cur Pl)
 | .bufk ty sz n c e,f=>f (.bufk ty sz n c e)
 | .grid tS ty sz n m e,f=>f (.grid tS ty sz n m e)
 | .gmap ty sz n dom m e out,f=>f (.gmap ty sz n dom m e out)
 | .rows ty sz hd dom m e out,f=>f (.rows ty sz hd dom m e out)
theorem zln {β:Type} (b:Blk) (f:Blk→β):zoo b f=f b:=by cases b <;> simp only [zoo,zdg]
def zi0 {α β:Type}:List α→(List α→β)→β
 | [],f=>f []
 | x::r,f=>zi0 r fun r=>f (x::r)
theorem zlm {α β:Type}:∀ (l:List α) (f:List α→β),zi0 l f=f l
 | [],f=>rfl
 | x::r,f=>by simp only [zi0,zlm r]
def zll {β:Type}:List Prop→(List Prop→β)→β
 | [],f=>f []
 | x::r,f=>zll r fun r=>f (x::r)
theorem zlk {β:Type}:∀ (l:List Prop) (f:List Prop→β),zll l f=f l
 | [],f=>rfl
 | x::r,f=>by simp only [zll,zlk r]
def zpX {β:Type} (o:Option Tmp) (v:AV) (L:List (Nat×AV)) (f:List (Nat×AV)→β):β:=match o with
 | some d=>f ((d,v)::L)
 | none=>f L
theorem zpc {β:Type} (o:Option Tmp) (v:AV) (L:List (Nat×AV)) (f:List (Nat×AV)→β):zpX o v L f=f (setL o v L):=by cases o <;> rfl
def znS {β:Type}:List (Nat×Blk)→List (Nat×Blk)→(List (Nat×Blk)→β)→β
 | [],M,f=>f M
 | (i,b)::r,M,f=>zoo b fun b=>znS r ((i,b)::M) f
def zkC:List (Nat×Blk)→List (Nat×Blk)→List (Nat×Blk)
 | [],M=>M
 | (i,b)::r,M=>zkC r ((i,b)::M)
theorem zmA {β:Type}:∀ (wr M:List (Nat×Blk)) (f:List (Nat×Blk)→β),znS wr M f=f (zkC wr M)
 | [],M,f=>rfl
 | (i,b)::r,M,f=>by simp only [znS,zln,zkC,zmA r]
theorem zj6:∀ (wr M:List (Nat×Blk)),mm (zkC wr M)=updL (mm M) wr
 | [],M=>rfl
 | (i,b)::r,M=>by simp only [zkC,updL,zj6 r];rfl
def zog:List (Nat×Blk)→List Nat
 | []=>[]
 | (i,_)::r=>i::zog r
theorem zkb:∀ (wr:List (Nat×Blk)),zog wr=wr.map (·.1)
 | []=>rfl
 | (i,b)::r=>by simp [zog,zkb r]
def runR (Γ:Tys) (own:List Nat) (ops:List Oper):List Oper→List RV→List (Nat×AV)→List (Nat×Blk)→Option Acc
 | [],rvs,L,M=>match rvs with
  | []=>some ⟨L,M,[],[],[]⟩
  | _::_=>none
 | o::os,rvs,L,M=>match zh0 o.op with
  | true=>match rvs with
   | []=>none
   | rv::rvs=>match opR Γ own ops (fr L) (mm M) o (some rv) with
    | some ⟨v,rd,wr,cs,q⟩=>match q with
     | none=>none
     | some (gd,f,xs)=>zeb v fun v=>zpX o.dst v L fun L1=>znS wr M fun M1=>match runR Γ own ops os rvs L1 M1 with
      | some ⟨L',M',cs',rq',ft'⟩=>zi0 rd fun rd=>zi0 (zog wr) fun ws=>zll (appP cs cs') fun cs=>some ⟨L',M',cs,(gd,f,xs,rv)::rq',(rd,ws)::ft'⟩
      | none=>none
    | none=>none
  | false=>match zlY o.op with
   | true=>none
   | false=>match opR Γ own ops (fr L) (mm M) o none with
    | some ⟨v,rd,wr,cs,q⟩=>match q with
     | some _=>none
     | none=>zeb v fun v=>zpX o.dst v L fun L1=>znS wr M fun M1=>match runR Γ own ops os rvs L1 M1 with
      | some ⟨L',M',cs',rq',ft'⟩=>zi0 rd fun rd=>zi0 (zog wr) fun ws=>zll (appP cs cs') fun cs=>some ⟨L',M',cs,rq',(rd,ws)::ft'⟩
      | none=>none
    | _=>none
inductive RqOk (P:Program):List (Option Bool×FuncId×(List AV×List (Nat×Blk))×RV)→Prop
 | nil:RqOk P []
 | free {f:FuncId} {xs:List AV×List (Nat×Blk)} {v:AV} {B:List (Nat×Blk)} {k:Nat} {K:List Nat} {r:List (Option Bool×FuncId×(List AV×List (Nat×Blk))×RV)}:CtrG P f xs v B→RqOk P r→RqOk P ((none,f,xs,⟨v,B,k,K⟩)::r)
 | on {W:Bool} {f:FuncId} {xs:List AV×List (Nat×Blk)} {v:AV} {B:List (Nat×Blk)} {k:Nat} {K:List Nat} {r:List (Option Bool×FuncId×(List AV×List (Nat×Blk))×RV)}:(W=true→CtrG P f xs v B)→RqOk P r→RqOk P ((some W,f,xs,⟨v,B,k,K⟩)::r)
theorem zdI:∀ {a b:List Prop} {q:Prop},q∈appP a b↔q∈a∨q∈b
 | [],b,q=>by simp [appP]
 | x::a,b,q=>by simp [appP,zdI,or_assoc]
inductive Trace (Z:Ctx→Prop) (P:Program) (N:Nat) (ops:Array Oper):Fr→Mm→List Oper→List OpRes→Fr→Mm→Prop
 | nil (F:Fr) (M:Mm):Trace Z P N ops F M [] [] F M
 | cons {F:Fr} {M:Mm} {o:Oper} {r:OpRes} {os:List Oper} {rs:List OpRes} {F':Fr} {M':Mm}:OpOk Z P N ops F M o r→Trace Z P N ops (putO F o.dst r.v) (updL M r.wr) os rs F' M'→Trace Z P N ops F M (o::os) (r::rs) F' M'
section
variable {P:Program} {N:Nat} {Γ:Tys} {own:List Nat} {ops:Array Oper}
theorem zc2 (hΓ:zbb P Γ) (hdep:8≤P.depth):∀ (os:List Oper) (rvs:List RV) (L:List (Nat×AV)) (M:List (Nat×Blk)) {A:Acc},runR Γ own ops.toList os rvs L M=some A→(∀ q,q∈A.cs→q)→RqOk P A.rq →
 ∃ rs,Trace (FzOk own) P N ops (fr L) (mm M) os rs (fr A.L) (mm A.M)∧A.ft=rs.map (fun r=>(r.rd,r.wr.map (·.1)))
 | [],rvs,L,M,A,hr,_,_=>by
  unfold runR at hr
  cases rvs with
  | nil=>simp only [] at hr;cases hr;exact ⟨[],.nil _ _,rfl⟩
  | cons=>simp at hr
 | o::os,rvs,L,M,A,hr,hcs,hrq=>by
  unfold runR at hr
  simp only [zfT,zdg,zlm,zlk,zln,zpc,zmA] at hr
  cases hcall:zh0 o.op with
  | true=>
   simp only [hcall] at hr
   have hnd:∀ c,o.op ≠ .defer c:=fun c e=>by rw [e] at hcall;simp [zh0] at hcall
   cases rvs with
   | nil=>simp at hr
   | cons rv rvs=>
   simp only [] at hr
   split at hr
   · rename_i v rd wr cs q hop
     cases q with
     | none=>simp at hr
     | some q=>
     obtain ⟨gd,f,xs⟩:=q
     simp only [] at hr
     cases hrun:runR Γ own ops.toList os rvs (setL o.dst v L) (zkC wr M) with
     | none=>simp [hrun] at hr
     | some B=>
     obtain ⟨L',M',cs',rq',ft'⟩:=B
     simp only [hrun] at hr
     cases hr
     have hq:RqOk P rq'∧((∀ W,gd=some W→W=true)→CtrG P f xs rv.v rv.B):=by
      cases hrq with
      | free h1 h2=>exact ⟨h2,fun _=>h1⟩
      | on h1 h2=>exact ⟨h2,fun h=>h1 (h _ rfl)⟩
     obtain ⟨rs,hT,hft⟩:=zc2 hΓ hdep os rvs (setL o.dst v L) (zkC wr M) hrun (fun q hq=>hcs q (zdI.2 (.inr hq))) hq.1
     refine ⟨⟨v,rd,wr,cs,some (gd,f,xs)⟩::rs,.cons (zkX hΓ hdep hop (fun q hq=>hcs q (zdI.2 (.inl hq))) (fun gd' f' xs' rv0 h hrv0=>by cases h;cases hrv0;exact hq.2) hnd) ?_,by simpa [zkb] using hft⟩
     rw [zon,zj6] at hT
     exact hT
   · cases hr
  | false=>
   simp only [hcall] at hr
   cases hdf:zlY o.op with
   | true=>simp [hdf] at hr
   | false=>
   simp only [hdf] at hr
   have hnd:∀ c,o.op ≠ .defer c:=fun c e=>by rw [e] at hdf;simp [zlY] at hdf
   split at hr
   · rename_i v rd wr cs q hop
     cases q with
     | some=>simp at hr
     | none=>
     simp only [] at hr
     cases hrun:runR Γ own ops.toList os rvs (setL o.dst v L) (zkC wr M) with
     | none=>simp [hrun] at hr
     | some B=>
     obtain ⟨L',M',cs',rq',ft'⟩:=B
     simp only [hrun] at hr
     cases hr
     obtain ⟨rs,hT,hft⟩:=zc2 hΓ hdep os rvs (setL o.dst v L) (zkC wr M) hrun (fun q hq=>hcs q (zdI.2 (.inr hq))) hrq
     refine ⟨⟨v,rd,wr,cs,none⟩::rs,.cons (zkX hΓ hdep hop (fun q hq=>hcs q (zdI.2 (.inl hq))) (fun gd f xs rv0 h=>by cases h) hnd) ?_,by simpa [zkb] using hft⟩
     rw [zon,zj6] at hT
     exact hT
   · cases hr
theorem Trace.lex {F F':Fr} {M M':Mm} {os:List Oper} {rs:List OpRes} {Z:Ctx→Prop} (T:Trace Z P N ops F M os rs F' M') {C:Ctx} (hZ:Z C) {g:Nat} {rr:Option Nat} {n:Nat} {Q:Exit→Act→World→Prop}
 (hQ:∀ h ρ a w,InvH N C h ρ F' M' g a w→Q .normal a w):∀ (k:Nat) (h:Hp) (ρ:Rho) (a:Act) (w:World),InvH N C h ρ F M g a w→(∀ o,o∈os→∀ d,o.dst=some d→d<N)→(∀ j,os[j]? = ops[k+j]? ∨ os.length≤j) →
  wpOpsIn (Fw rr) n P ops Q (List.range' k os.length) a w:=by
 induction T with
 | nil F M=>intro k h ρ a w I _ _;exact hQ h ρ a w I
 | cons hop _ ih=>
  rename_i F M o r os rs F' M' T'
  intro k h ρ a w I hd hos
  have h0:ops[k]? = some o:=by
   rcases hos 0 with e|e
   · simpa using e.symm
   · simp at e
  simp only [List.length_cons,List.range'_succ]
  rw [wpOpsIn_cons]
  unfold wpOpIn
  simp only [h0]
  refine hop C hZ h ρ F M g a w I (fun _ _=>rfl) (fun _ _=>rfl) rr n _ Q (fun x h' ρ' w' I' hv=>ih hQ (k+1) h' ρ' _ w' (I'.put (fun d hd'=>hd o (List.mem_cons_self ..) d hd') hv) (fun o' ho'=>hd o' (List.mem_cons_of_mem _ ho')) (fun j=>?_))
  rcases hos (j+1) with e|e
  · left;simpa [Nat.add_assoc,Nat.add_comm 1 j] using e
  · right;simpa using e
end
def zhK (j:Nat):List Edge→Bool
 | []=>true
 | e::r=>match Region.binds .any e with
  | true=>match Nat.blt e.on j with
   | true=>zhK j r
   | false=>false
  | false=>zhK j r
def zdV (ms:List Nat):List Edge→Nat
 | []=>0
 | e::r=>match Region.binds .any e with
  | true=>2 ^ e.on ||| (ms.getD e.on 0 ||| zdV ms r)
  | false=>zdV ms r
structure Item where
 dst:Option Nat
 looks:List Nat
 rd:List Nat
 wr:List Nat
 mask:Nat
def items (ops:Array Oper):List Oper→List (List Nat×List Nat)→List Nat→Nat→Option (List Item)
 | [],ft,_,_=>match ft with
  | []=>some []
  | _::_=>none
 | o::os,ft,ms,j=>match ft with
  | []=>none
  | (rd,wr)::ft=>match zhK j o.after.toList with
   | true=>match items ops os ft (ms++[zdV ms o.after.toList]) (j+1) with
    | some r=>some (⟨o.dst,o.looksAt ops,rd,wr,zdV ms o.after.toList⟩::r)
    | none=>none
   | false=>none
def zqd:Option Nat→List Nat→Bool
 | some d,l=>zbc l d
 | none,_=>false
def zlO:Option Nat→Option Nat→Bool
 | some d,some e=>Nat.beq d e
 | _,_=>false
def meets:List Nat→List Nat→Bool
 | [],_=>false
 | i::r,l=>match zbc l i with
  | true=>true
  | false=>meets r l
def confl (x y:Item):Bool:=zqd x.dst y.looks || zqd y.dst x.looks || zlO x.dst y.dst || meets x.wr y.rd || meets y.wr x.rd || meets x.wr y.wr
def zkY (i:Nat) (x y:Item):Bool:=match confl x y with
 | true=>y.mask.testBit i
 | false=>true
def zpf (i:Nat) (x:Item):List Item→Bool
 | []=>true
 | y::r=>match zkY i x y with
  | true=>zpf i x r
  | false=>false
def znU:Nat→List Item→Bool
 | _,[]=>true
 | i,x::r=>match zpf i x r with
  | true=>znU (i+1) r
  | false=>false
def zlR (ops:Array Oper) (ft:List (List Nat×List Nat)):Bool:=match items ops ops.toList ft [] 0 with
 | some l=>znU 0 l
 | none=>false
inductive Anc (ops:Array Oper):Nat→Nat→Prop
 | edge {i j:Nat} {o:Oper} {e:Edge}:ops[j]? = some o→e∈o.after→Region.binds .any e=true→e.on=i→Anc ops i j
 | trans {i k j:Nat}:Anc ops i k→Anc ops k j→Anc ops i j
section
variable {ops:Array Oper}
def zjZ (ops:Array Oper) (S:Nat→Bool):Prop:=∀ j o,ops[j]? = some o→S j=true→∀ e,e∈o.after→Region.binds .any e=true→S e.on=true
theorem Anc.closed {S:Nat→Bool} (hS:zjZ ops S) {i j:Nat} (A:Anc ops i j):S j=true→S i=true:=by
 induction A with
 | edge h1 h2 h3 h4=>intro hj;exact h4▸hS _ _ h1 hj _ h2 h3
 | trans _ _ ih1 ih2=>exact fun hj=>ih1 (ih2 hj)
theorem zfV {j:Nat}:∀ {es:List Edge},zhK j es=true→∀ e,e∈es→Region.binds .any e=true→e.on<j
 | x::es,h,e,he,hb=>by
  unfold zhK at h
  rcases List.mem_cons.1 he with rfl|he
  · rw [hb] at h
    simp only [] at h
    split at h
    · rename_i hlt
      exact Nat.le_of_ble_eq_true hlt
    · cases h
  · split at h
    · split at h
      · exact zfV h e he hb
      · cases h
    · exact zfV h e he hb
theorem zfh {ms:List Nat} {i:Nat}:∀ {es:List Edge},(zdV ms es).testBit i=true→∃ e,e∈es∧Region.binds .any e=true∧(e.on=i∨(ms.getD e.on 0).testBit i=true)
 | [],h=>by simp [zdV] at h
 | x::es,h=>by
  unfold zdV at h
  split at h
  · rename_i hb
    rw [Nat.testBit_or,Nat.testBit_or,Bool.or_eq_true,Bool.or_eq_true,Nat.testBit_two_pow] at h
    rcases h with h|h|h
    · exact ⟨x,by simp,hb,.inl (by simpa using h)⟩
    · exact ⟨x,by simp,hb,.inr h⟩
    · obtain ⟨e,h1,h2,h3⟩:=zfh h
      exact ⟨e,by simp [h1],h2,h3⟩
  · obtain ⟨e,h1,h2,h3⟩:=zfh h
    exact ⟨e,by simp [h1],h2,h3⟩
theorem zhC:∀ {os:List Oper} {ft:List (List Nat×List Nat)} {ms:List Nat} {j:Nat} {l:List Item},items ops os ft ms j=some l→ms.length=j→(∀ k i,(ms.getD k 0).testBit i=true→Anc ops i k)→(∀ k,os[k]? = ops[j+k]? ∨ os.length≤k) →
 l.length=os.length∧ft.length=os.length∧∀ k x,l[k]? = some x→∃ o f,os[k]? = some o∧ft[k]? = some f∧x.dst=o.dst∧x.looks=o.looksAt ops∧x.rd=f.1∧x.wr=f.2∧(∀ i,x.mask.testBit i=true→Anc ops i (j+k))∧∀ e,e∈o.after→Region.binds .any e=true→e.on<j+k
 | [],ft,ms,j,l,h,_,_,_=>by
  unfold items at h
  cases ft with
  | nil=>simp only [] at h;cases h;exact ⟨rfl,rfl,fun k x hx=>by simp at hx⟩
  | cons=>simp at h
 | o::os,ft,ms,j,l,h,hms,hA,hos=>by
  unfold items at h
  cases ft with
  | nil=>simp at h
  | cons f ft=>
  obtain ⟨rd,wr⟩:=f
  simp only [] at h
  cases hlt:zhK j o.after.toList with
  | false=>simp [hlt] at h
  | true=>
  simp only [hlt] at h
  cases hi:items ops os ft (ms++[zdV ms o.after.toList]) (j+1) with
  | none=>simp [hi] at h
  | some r=>
  simp only [hi] at h
  cases h
  have h0:ops[j]? = some o:=by
   rcases hos 0 with e|e
   · simpa using e.symm
   · simp at e
  have hm:∀ i,(zdV ms o.after.toList).testBit i=true→Anc ops i j:=by
   intro i hi
   obtain ⟨e,h1,h2,h3⟩:=zfh hi
   rcases h3 with h3|h3
   · exact .edge h0 (by simpa using h1) h2 h3
   · exact .trans (hA _ _ h3) (.edge h0 (by simpa using h1) h2 rfl)
  have hA':∀ k i,((ms++[zdV ms o.after.toList]).getD k 0).testBit i=true→Anc ops i k:=by
   intro k i hk
   rcases Nat.lt_trichotomy k ms.length with h|h|h
   · rw [List.getD_eq_getElem?_getD,List.getElem?_append_left h,← List.getD_eq_getElem?_getD] at hk;exact hA k i hk
   · subst h
     rw [List.getD_eq_getElem?_getD,List.getElem?_append_right (Nat.le_refl _)] at hk
     simp at hk
     exact hms▸hm i hk
   · rw [List.getD_eq_getElem?_getD,List.getElem?_eq_none (by simp;omega)] at hk
     simp at hk
  have hrec:=zhC hi (by simp [hms]) hA' (fun k=>by
   rcases hos (k+1) with e|e
   · left;simpa [Nat.add_assoc,Nat.add_comm 1 k] using e
   · right;simpa using e)
  refine ⟨by simp [hrec.1],by simp [hrec.2.1],fun k x hx=>?_⟩
  cases k with
  | zero=>
   simp at hx;subst hx
   exact ⟨o,(rd,wr),rfl,rfl,rfl,rfl,rfl,rfl,by simpa using hm,fun e he hb=>by simpa using zfV hlt e (by simpa using he) hb⟩
  | succ k=>
   simp only [List.getElem?_cons_succ] at hx
   obtain ⟨o',f,h1,h2,h3,h4,h5,h6,h7,h8⟩:=hrec.2.2 k x hx
   exact ⟨o',f,by simpa using h1,by simpa using h2,h3,h4,h5,h6,by simpa [Nat.add_assoc,Nat.add_comm 1 k] using h7,by simpa [Nat.add_assoc,Nat.add_comm 1 k] using h8⟩
theorem zjD {i:Nat} {x:Item}:∀ {l:List Item},zpf i x l=true→∀ y,y∈l→zkY i x y=true
 | z::l,h,y,hy=>by
  unfold zpf at h
  split at h
  · rename_i h1
    rcases List.mem_cons.1 hy with rfl|hy
    · exact h1
    · exact zjD h y hy
  · cases h
theorem zhz:∀ {l:List Item} {k:Nat},znU k l=true→∀ i j x y,i<j→l[i]? = some x→l[j]? = some y→zkY (k+i) x y=true
 | z::l,k,h,i,j,x,y,hij,hx,hy=>by
  unfold znU at h
  split at h
  · rename_i h1
    cases j with
    | zero=>omega
    | succ j=>
    simp only [List.getElem?_cons_succ] at hy
    cases i with
    | zero=>
     simp at hx;subst hx
     exact zjD h1 y (List.mem_of_getElem? hy)
    | succ i=>
     simp only [List.getElem?_cons_succ] at hx
     have:=zhz h i j x y (by omega) hx hy
     simpa [Nat.add_assoc,Nat.add_comm 1 i] using this
  · cases h
theorem zdN:∀ {l:List Nat} {t:Nat},t∈l→zbc l t=true
 | k::l,t,h=>by
  unfold zbc
  rcases List.mem_cons.1 h with rfl|h
  · simp
  · split
    · rfl
    · exact zdN h
theorem zdL:∀ {a b:List Nat} {t:Nat},t∈a→t∈b→meets a b=true
 | k::a,b,t,h1,h2=>by
  unfold meets
  rcases List.mem_cons.1 h1 with rfl|h1
  · simp [zdN h2]
  · split
    · rfl
    · exact zdL h1 h2
end
end Go.Av
end
/- Regions, part 3: whatever the order. -/
section
set_option linter.all false
namespace Go.Av
def stF (F:Fr):List (Option Nat×AV)→(Nat→Bool)→Nat→Fr
 | [],_,_=>F
 | (d,v)::r,S,k=>stF (if S k then putO F d v else F) r S (k+1)
def stM (M:Mm):List (List (Nat×Blk))→(Nat→Bool)→Nat→Mm
 | [],_,_=>M
 | wr::r,S,k=>stM (if S k then updL M wr else M) r S (k+1)
theorem zpW {F F':Fr} {d:Option Nat} {v:AV} {t:Nat} (h:F t=F' t):putO F d v t=putO F' d v t:=by
 cases d with
 | none=>exact h
 | some d=>
  by_cases e:t=d
  · subst e;simp [putO,ze5]
  · simp [putO,zeS _ _ e,h]
theorem zj5 {F:Fr} {d:Option Nat} {v:AV} {t:Nat} (h:d≠some t):putO F d v t=F t:=by
 cases d with
 | none=>rfl
 | some d=>exact zeS _ _ (fun e=>h (by rw [e]))
theorem zlJ:∀ {wr:List (Nat×Blk)} {M M':Mm} {i:Nat},M i=M' i→updL M wr i=updL M' wr i
 | [],_,_,_,h=>h
 | (j,b)::r,M,M',i,h=>by
  unfold updL
  refine zlJ ?_
  by_cases e:i=j
  · subst e;simp [zah]
  · simp [zae _ _ e,h]
theorem ziv:∀ {wr:List (Nat×Blk)} {M:Mm} {i:Nat},i ∉ wr.map (·.1)→updL M wr i=M i
 | [],_,_,_=>rfl
 | (j,b)::r,M,i,h=>by
  unfold updL
  simp at h
  rw [ziv (by simpa using h.2),zae _ _ h.1]
theorem zeR {t:Nat}:∀ {l:List (Option Nat×AV)} {F F':Fr} {S S':Nat→Bool} {k:Nat},F t=F' t→(∀ i d v,l[i]? = some (d,v)→S (k+i)≠S' (k+i)→d≠some t)→stF F l S k t=stF F' l S' k t
 | [],_,_,_,_,_,h,_=>h
 | (d,v)::r,F,F',S,S',k,h,hd=>by
  unfold stF
  refine zeR ?_ (fun i d' v' hi hs=>hd (i+1) d' v' (by simpa using hi) (by simpa [Nat.add_assoc,Nat.add_comm 1 i] using hs))
  have h0:=hd 0 d v (by simp)
  simp only [Nat.add_zero] at h0
  cases hS:S k <;> cases hS':S' k
  · simpa using h
  · simp only [Bool.false_eq_true,if_false,if_true];rw [zj5 (h0 (by rw [hS,hS'];decide))];exact h
  · simp only [Bool.false_eq_true,if_false,if_true];rw [zj5 (h0 (by rw [hS,hS'];decide))];exact h
  · simp only [if_true];exact zpW h
theorem zem {t:Nat}:∀ {l:List (List (Nat×Blk))} {M M':Mm} {S S':Nat→Bool} {k:Nat},M t=M' t→(∀ i wr,l[i]? = some wr→S (k+i)≠S' (k+i)→t ∉ wr.map (·.1))→stM M l S k t=stM M' l S' k t
 | [],_,_,_,_,_,h,_=>h
 | wr::r,M,M',S,S',k,h,hd=>by
  unfold stM
  refine zem ?_ (fun i wr' hi hs=>hd (i+1) wr' (by simpa using hi) (by simpa [Nat.add_assoc,Nat.add_comm 1 i] using hs))
  have h0:=hd 0 wr (by simp)
  simp only [Nat.add_zero] at h0
  cases hS:S k <;> cases hS':S' k
  · simpa using h
  · simp only [Bool.false_eq_true,if_false,if_true];rw [ziv (h0 (by rw [hS,hS'];decide))];exact h
  · simp only [Bool.false_eq_true,if_false,if_true];rw [ziv (h0 (by rw [hS,hS'];decide))];exact h
  · simp only [if_true];exact zlJ h
theorem zlM {d:Option Nat} {v:AV} {i:Nat}:∀ {l:List (Option Nat×AV)} {F:Fr} {S S':Nat→Bool} {k:Nat},l[i]? = some (d,v)→S (k+i)=false→S' (k+i)=true→(∀ j,j≠i→S' (k+j)=S (k+j)) →
 (∀ j e u,i<j→l[j]? = some (e,u)→S (k+j)=true→∀ t,d=some t→e≠some t)→∀ t,stF F l S' k t=putO (stF F l S k) d v t
 | [],_,_,_,_,h,_,_,_,_=>by simp at h
 | (d0,v0)::r,F,S,S',k,hi,h1,h2,h3,h4=>by
  intro t
  unfold stF
  cases i with
  | zero=>
   simp only [List.getElem?_cons_zero,Option.some.injEq,Prod.mk.injEq] at hi
   obtain ⟨rfl,rfl⟩:=hi
   simp only [Nat.add_zero] at h1 h2
   rw [h1,h2]
   simp only [Bool.false_eq_true,if_false,if_true]
   have hS:stF (putO F d0 v0) r S' (k+1) t=stF (putO F d0 v0) r S (k+1) t:=zeR rfl (fun j e u _ hs=>by
    have:=h3 (j+1) (by omega)
    rw [show k+(j+1)=k+1+j by omega] at this
    exact absurd this hs)
   rw [hS]
   by_cases ht:d0=some t
   · subst ht
     simp only [putO,ze5]
     have:stF (put F t v0) r S (k+1) t=stF (put F t v0) r (fun _=>false) (k+1) t:=zeR rfl (fun j e u hj hs=>by
      refine h4 (j+1) e u (by omega) (by simpa using hj) ?_ t rfl
      rw [show k+(j+1)=k+1+j by omega]
      simpa using hs)
     rw [this]
     have hfal:∀ (l:List (Option Nat×AV)) (G:Fr) (k:Nat),stF G l (fun _=>false) k=G:=by
      intro l
      induction l with
      | nil=>intros;rfl
      | cons x l ih=>intro G k;obtain ⟨e,u⟩:=x;unfold stF;simp [ih]
     rw [hfal,ze5]
   · rw [zj5 ht]
     exact zeR (zj5 ht) (fun j e u _ hs=>absurd rfl hs)
  | succ i=>
   have e0:=h3 0 (by omega)
   simp only [Nat.add_zero] at e0
   rw [e0]
   exact zlM (by simpa using hi) (by rw [show k+1+i=k+(i+1) by omega];exact h1) (by rw [show k+1+i=k+(i+1) by omega];exact h2)
    (fun j hj=>by rw [show k+1+j=k+(j+1) by omega];exact h3 (j+1) (by omega))
    (fun j e u hij hj hs=>h4 (j+1) e u (by omega) (by simpa using hj) (by rw [show k+(j+1)=k+1+j by omega];exact hs)) t
theorem zlL {wr:List (Nat×Blk)} {i:Nat}:∀ {l:List (List (Nat×Blk))} {M:Mm} {S S':Nat→Bool} {k:Nat},l[i]? = some wr→S (k+i)=false→S' (k+i)=true→(∀ j,j≠i→S' (k+j)=S (k+j)) →
 (∀ j wr',i<j→l[j]? = some wr'→S (k+j)=true→∀ t,t∈wr.map (·.1)→t ∉ wr'.map (·.1))→∀ t,stM M l S' k t=updL (stM M l S k) wr t
 | [],_,_,_,_,h,_,_,_,_=>by simp at h
 | wr0::r,M,S,S',k,hi,h1,h2,h3,h4=>by
  intro t
  unfold stM
  cases i with
  | zero=>
   simp only [List.getElem?_cons_zero,Option.some.injEq] at hi
   subst hi
   simp only [Nat.add_zero] at h1 h2
   rw [h1,h2]
   simp only [Bool.false_eq_true,if_false,if_true]
   have hS:stM (updL M wr0) r S' (k+1) t=stM (updL M wr0) r S (k+1) t:=zem rfl (fun j u _ hs=>by
    have:=h3 (j+1) (by omega)
    rw [show k+(j+1)=k+1+j by omega] at this
    exact absurd this hs)
   rw [hS]
   have hfal:∀ (l:List (List (Nat×Blk))) (G:Mm) (k:Nat),stM G l (fun _=>false) k=G:=by
    intro l
    induction l with
    | nil=>intros;rfl
    | cons x l ih=>intro G k;unfold stM;simp [ih]
   by_cases ht:t∈wr0.map (·.1)
   · have hno:∀ j wr',r[j]? = some wr'→S (k+1+j)=true→t ∉ wr'.map (·.1):=fun j wr' hj hs=>
      h4 (j+1) wr' (by omega) (by simpa using hj) (by rw [show k+(j+1)=k+1+j by omega];exact hs) t ht
     have e1:stM (updL M wr0) r S (k+1) t=stM (updL M wr0) r (fun _=>false) (k+1) t:=zem rfl (fun j u hj hs=>hno j u hj (by simpa using hs))
     have e2:stM M r S (k+1) t=stM M r (fun _=>false) (k+1) t:=zem rfl (fun j u hj hs=>hno j u hj (by simpa using hs))
     rw [hfal] at e1 e2
     rw [e1]
     exact (zlJ e2).symm
   · rw [ziv ht]
     exact zem (ziv ht) (fun j u _ hs=>absurd rfl hs)
  | succ i=>
   have e0:=h3 0 (by omega)
   simp only [Nat.add_zero] at e0
   rw [e0]
   exact zlL (by simpa using hi) (by rw [show k+1+i=k+(i+1) by omega];exact h1) (by rw [show k+1+i=k+(i+1) by omega];exact h2)
    (fun j hj=>by rw [show k+1+j=k+(j+1) by omega];exact h3 (j+1) (by omega))
    (fun j wr' hij hj hs=>h4 (j+1) wr' (by omega) (by simpa using hj) (by rw [show k+(j+1)=k+1+j by omega];exact hs)) t
section
variable {P:Program} {N:Nat} {Γ:Tys} {own:List Nat} {ops:Array Oper}
def dvs:List Oper→List OpRes→List (Option Nat×AV)
 | o::os,r::rs=>(o.dst,r.v)::dvs os rs
 | _,_=>[]
theorem zoH:∀ {os:List Oper} {rs:List OpRes} {i:Nat} {o:Oper} {r:OpRes},os[i]? = some o→rs[i]? = some r→(dvs os rs)[i]? = some (o.dst,r.v):=by
 intro os
 induction os with
 | nil=>intro rs i o r h;simp at h
 | cons o0 os ih=>
  intro rs i o r h1 h2
  cases rs with
  | nil=>simp at h2
  | cons r0 rs=>
   cases i with
   | zero=>
    simp only [List.getElem?_cons_zero,Option.some.injEq] at h1 h2
    subst h1 h2
    simp only [dvs,List.getElem?_cons_zero]
   | succ i=>
    simp only [List.getElem?_cons_succ] at h1 h2
    simp only [dvs,List.getElem?_cons_succ]
    exact ih h1 h2
theorem zkA:∀ {os:List Oper} {rs:List OpRes} {i:Nat} {x:Option Nat×AV},(dvs os rs)[i]? = some x→∃ o r,os[i]? = some o∧rs[i]? = some r∧x=(o.dst,r.v):=by
 intro os
 induction os with
 | nil=>intro rs i x h;simp [dvs] at h
 | cons o0 os ih=>
  intro rs i x h
  cases rs with
  | nil=>simp [dvs] at h
  | cons r0 rs=>
   simp only [dvs] at h
   cases i with
   | zero=>simp only [List.getElem?_cons_zero,Option.some.injEq] at h;exact ⟨o0,r0,rfl,rfl,h.symm⟩
   | succ i=>
    simp only [List.getElem?_cons_succ] at h ⊢
    exact ih h
theorem Trace.len {F F':Fr} {M M':Mm} {os:List Oper} {rs:List OpRes} {Z:Ctx→Prop} (T:Trace Z P N ops F M os rs F' M'):rs.length=os.length:=by
 induction T with
 | nil=>rfl
 | cons _ _ ih=>simp [ih]
theorem Trace.at {F F':Fr} {M M':Mm} {os:List Oper} {rs:List OpRes} {Z:Ctx→Prop} (T:Trace Z P N ops F M os rs F' M'):∀ (k j:Nat) (o:Oper) (r:OpRes),os[j]? = some o→rs[j]? = some r →
 OpOk Z P N ops (stF F (dvs os rs) (fun i=>decide (i<k+j)) k) (stM M (rs.map (·.wr)) (fun i=>decide (i<k+j)) k) o r:=by
 induction T with
 | nil=>intro k j o r h;simp at h
 | cons hop _ ih=>
  rename_i F M o0 r0 os rs F' M' T'
  intro k j o r ho hr
  cases j with
  | zero=>
   simp at ho hr;subst ho hr
   have e1:∀ (l:List (Option Nat×AV)) (G:Fr) (m:Nat),k≤m→stF G l (fun i=>decide (i<k+0)) m=G:=by
    intro l
    induction l with
    | nil=>intros;rfl
    | cons x l ih=>intro G m hm;obtain ⟨e,u⟩:=x;unfold stF;rw [if_neg (by simp;omega)];exact ih G (m+1) (by omega)
   have e2:∀ (l:List (List (Nat×Blk))) (G:Mm) (m:Nat),k≤m→stM G l (fun i=>decide (i<k+0)) m=G:=by
    intro l
    induction l with
    | nil=>intros;rfl
    | cons x l ih=>intro G m hm;unfold stM;rw [if_neg (by simp;omega)];exact ih G (m+1) (by omega)
   rw [e1 _ _ _ (Nat.le_refl _),e2 _ _ _ (Nat.le_refl _)]
   exact hop
  | succ j=>
   have:=ih (k+1) j o r (by simpa using ho) (by simpa using hr)
   simp only [dvs,stF,stM,List.map_cons]
   rw [if_pos (by simp),if_pos (by simp)]
   have e:(fun i=>decide (i<k+(j+1)))=(fun i=>decide (i<k+1+j)):=by funext i;congr 1;rw [show k+(j+1)=k+1+j by omega]
   rw [e]
   exact this
theorem Trace.all {F F':Fr} {M M':Mm} {os:List Oper} {rs:List OpRes} {Z:Ctx→Prop} (T:Trace Z P N ops F M os rs F' M'):∀ (S:Nat→Bool) (k:Nat),(∀ i,i<os.length→S (k+i)=true)→stF F (dvs os rs) S k=F'∧stM M (rs.map (·.wr)) S k=M':=by
 induction T with
 | nil=>intro S k _;exact ⟨rfl,rfl⟩
 | cons hop _ ih=>
  intro S k hS
  simp only [dvs,stF,stM,List.map_cons]
  have h0:=hS 0 (by simp)
  simp only [Nat.add_zero] at h0
  rw [h0]
  exact ih S (k+1) (fun i hi=>by rw [show k+1+i=k+(i+1) by omega];exact hS (i+1) (by simp;omega))
def cnt (S:Nat→Bool):Nat→Nat
 | 0=>0
 | n+1=>cnt S n+(if S n then 0 else 1)
theorem zm0 {S S':Nat→Bool}:∀ {n:Nat},(∀ i,i<n→S i=S' i)→cnt S n=cnt S' n
 | 0,_=>rfl
 | n+1,h=>by simp only [cnt];rw [zm0 (fun i hi=>h i (by omega)),h n (by omega)]
theorem zoK {S S':Nat→Bool} {i:Nat} (h1:S i=false) (h2:S' i=true) (h3:∀ j,j≠i→S' j=S j) (n:Nat) (hi:i<n):cnt S n=cnt S' n+1:=by
 induction n with
 | zero=>omega
 | succ n ih=>
  simp only [cnt]
  by_cases e:i=n
  · subst e
    rw [h1,h2,zm0 (S:=S) (S':=S') (fun j hj=>(h3 j (by omega)).symm)]
    simp
  · have:=ih (by omega)
    rw [h3 n (Ne.symm e)]
    omega
theorem zkD {S:Nat→Bool}:∀ {n:Nat},cnt S n=0→∀ i,i<n→S i=true
 | n+1,h,i,hi=>by
  simp only [cnt] at h
  by_cases e:i=n
  · subst e
    cases hS:S i with
    | true=>rfl
    | false=>simp [hS] at h
  · have h0:cnt S n=0:=by omega
    exact zkD h0 i (by omega)
theorem zgr {d:Option Nat} {l:List Nat} {t:Nat} (h1:d=some t) (h2:t∈l):zqd d l=true:=by subst h1;exact zdN h2
theorem zoS {F0 F1:Fr} {M0 M1:Mm} {rs:List OpRes} {Z:Ctx→Prop} (T:Trace Z P N ops F0 M0 ops.toList rs F1 M1) (hord:zlR ops (rs.map (fun r=>(r.rd,r.wr.map (·.1))))=true) (hdst:∀ o,o∈ops.toList→∀ d,o.dst=some d→d<N)
 {C:Ctx} (hZ:Z C) {g:Nat} {rr:Option Nat} {n:Nat} {Q:Exit→Act→World→Prop} (hQ:∀ h ρ a w,InvH N C h ρ F1 M1 g a w→Q .normal a w) :
 ∀ (fuel:Nat) (listed:Array Bool) (h:Hp) (ρ:Rho) (a:Act) (w:World),listed.size=ops.size→cnt (fun i=>listed.getD i false) ops.size=fuel→zjZ ops (fun i=>listed.getD i false) →
  InvH N C h ρ (stF F0 (dvs ops.toList rs) (fun i=>listed.getD i false) 0) (stM M0 (rs.map (·.wr)) (fun i=>listed.getD i false) 0) g a w→wpAnyIn (Fw rr) n P .any ops Q fuel listed a w:=by
 unfold zlR at hord
 split at hord
 case h_2=>cases hord
 rename_i l hl
 obtain ⟨hlen,_,hit⟩:=zhC hl rfl (fun k i h=>by simp at h) (fun k=>.inl (by simp))
 have hpair:=zhz hord
 simp only [Nat.zero_add] at hit hpair
 have hn:ops.toList.length=ops.size:=by simp
 -- an item of each operation
 have item:∀ (i:Nat) (o:Oper) (r:OpRes),ops[i]? = some o→rs[i]? = some r→∃ x,l[i]? = some x∧x.dst=o.dst∧x.looks=o.looksAt ops∧x.rd=r.rd∧x.wr=r.wr.map (·.1)∧(∀ k,x.mask.testBit k=true→Anc ops k i):=by
  intro i o r ho hr
  have hi:i<l.length:=by rw [hlen,hn];exact (Array.getElem?_eq_some_iff.1 ho).1
  obtain ⟨o',f,h1,h2,h3,h4,h5,h6,h7,_⟩:=hit i l[i] (List.getElem?_eq_getElem hi)
  rw [Array.getElem?_toList,ho] at h1;cases h1
  rw [List.getElem?_map,hr] at h2;cases h2
  exact ⟨_,List.getElem?_eq_getElem hi,h3,h4,h5,h6,h7⟩
 -- two that do not wait for one another are apart
 have far:∀ (i j:Nat) (o:Oper) (r:OpRes) (o':Oper) (r':OpRes),i<j→ops[i]? = some o→rs[i]? = some r→ops[j]? = some o'→rs[j]? = some r'→¬ Anc ops i j →
  (∀ t,o.dst=some t→t ∉ o'.looksAt ops)∧(∀ t,o'.dst=some t→t ∉ o.looksAt ops)∧(∀ t,o.dst=some t→o'.dst≠some t)∧(∀ t,t∈r.wr.map (·.1)→t ∉ r'.rd)∧(∀ t,t∈r'.wr.map (·.1)→t ∉ r.rd)∧(∀ t,t∈r.wr.map (·.1)→t ∉ r'.wr.map (·.1)):=by
  intro i j o r o' r' hij ho hr ho' hr' hA
  obtain ⟨x,hx,a1,a2,a3,a4,_⟩:=item i o r ho hr
  obtain ⟨y,hy,b1,b2,b3,b4,b5⟩:=item j o' r' ho' hr'
  have h0:=hpair i j x y hij hx hy
  have hc:confl x y=false:=by
   unfold zkY at h0
   split at h0
   · exact absurd (b5 i h0) hA
   · assumption
  unfold confl at hc
  simp only [Bool.or_eq_false_iff] at hc
  obtain ⟨⟨⟨⟨⟨c1,c2⟩,c3⟩,c4⟩,c5⟩,c6⟩:=hc
  refine ⟨fun t ht hin=>?_,fun t ht hin=>?_,fun t ht hin=>?_,fun t ht hin=>?_,fun t ht hin=>?_,fun t ht hin=>?_⟩
  · rw [zgr (a1.trans ht) (b2▸hin)] at c1;cases c1
  · rw [zgr (b1.trans ht) (a2▸hin)] at c2;cases c2
  · rw [a1.trans ht,b1.trans hin] at c3;simp [zlO] at c3
  · rw [zdL (a4▸ht) (b3▸hin)] at c4;cases c4
  · rw [zdL (b4▸ht) (a3▸hin)] at c5;cases c5
  · rw [zdL (a4▸ht) (b4▸hin)] at c6;cases c6
 have hrs:∀ (i:Nat) (o:Oper),ops[i]? = some o→∃ r,rs[i]? = some r:=by
  intro i o ho
  have hi:i<rs.length:=by rw [T.len,hn];exact (Array.getElem?_eq_some_iff.1 ho).1
  exact ⟨rs[i],List.getElem?_eq_getElem hi⟩
 have fin:∀ (listed:Array Bool) (h:Hp) (ρ:Rho) (a:Act) (w:World),(∀ i,i<ops.size→listed.getD i false=true) →
  InvH N C h ρ (stF F0 (dvs ops.toList rs) (fun i=>listed.getD i false) 0) (stM M0 (rs.map (·.wr)) (fun i=>listed.getD i false) 0) g a w→Q .normal a w:=by
  intro listed h ρ a w hall I
  obtain ⟨e1,e2⟩:=T.all (fun i=>listed.getD i false) 0 (fun i hi=>by simpa using hall i (by simpa using hi))
  rw [e1,e2] at I
  exact hQ h ρ a w I
 have hgd:∀ (listed:Array Bool) (i:Nat),listed.size=ops.size→i<ops.size→listed.getD i true=listed.getD i false:=by
  intro listed i hs hi
  have:i<listed.size:=by omega
  simp [this]
 intro fuel
 induction fuel with
 | zero=>
  intro listed h ρ a w hs hc hcl I
  have hall:=zkD hc
  refine ⟨?_,fin listed h ρ a w hall I⟩
  rcases hr:Region.ready .any ops listed with _|⟨i,t⟩
  · rfl
  · have:=(mem_ready.1 (hr▸List.mem_cons_self .. : i∈Region.ready .any ops listed))
    obtain ⟨h1,o,ho,_⟩:=this
    have hi:=(Array.getElem?_eq_some_iff.1 ho).1
    rw [hgd listed i hs hi,hall i hi] at h1;cases h1
 | succ fuel ih=>
  intro listed h ρ a w hs hc hcl I
  refine ⟨fun h0=>fin listed h ρ a w (fun i hi=>?_) I,fun i hi=>?_⟩
  · -- nothing is ready: all have come
    have key:∀ m i,i<m→i<ops.size→listed.getD i false=true:=by
     intro m
     induction m with
     | zero=>intro i hi;omega
     | succ m ihm=>
      intro i him hi
      cases hl':listed.getD i false with
      | true=>rfl
      | false=>
       exfalso
       have ho:ops[i]? = some ops[i]:=Array.getElem?_eq_getElem hi
       have hx:i<l.length:=by rw [hlen,hn];exact hi
       obtain ⟨o',f,h1,_,_,_,_,_,_,h8⟩:=hit i l[i] (List.getElem?_eq_getElem hx)
       rw [Array.getElem?_toList,ho] at h1;cases h1
       have:i∈Region.ready .any ops listed:=mem_ready.2 ⟨by rw [hgd listed i hs hi];exact hl',_,ho,fun e he hb=>ihm e.on (by have:=h8 e he hb;omega) (by have:=h8 e he hb;omega)⟩
       rw [h0] at this;cases this
    exact key (i+1) i (by omega) hi
  · obtain ⟨h1,o,ho,hall⟩:=mem_ready.1 hi
    have hin:=(Array.getElem?_eq_some_iff.1 ho).1
    rw [hgd listed i hs hin] at h1
    obtain ⟨r,hr⟩:=hrs i o ho
    have hop:=T.at 0 i o r (by rw [Array.getElem?_toList];exact ho) hr
    simp only [Nat.zero_add] at hop
    -- whom it waits for,and who waits for it
    have anc1:∀ k,Anc ops k i→listed.getD k false=true:=by
     intro k A
     have hcl':∀ k,Anc ops k i→listed.getD k false=true:=by
      intro k A
      obtain ⟨j,hj⟩:∃ j,j=i:=⟨i,rfl⟩
      rw [← hj] at A
      induction A with
      | edge q1 q2 q3 q4=>subst hj;rw [ho] at q1;cases q1;exact q4▸hall _ q2 q3
      | trans A1 _ _ ih2=>exact A1.closed hcl (ih2 hj)
     exact hcl' k A
    have anc2:∀ k,Anc ops i k→listed.getD k false=false:=by
     intro k A
     cases hk:listed.getD k false with
     | false=>rfl
     | true=>
      have:listed.getD i false=true:=A.closed hcl hk
      rw [h1] at this;cases this
    have apartT:∀ (k:Nat) (o':Oper) (r':OpRes),ops[k]? = some o'→rs[k]? = some r'→k≠i→(listed.getD k false≠decide (k<i)) →
     (∀ t,o'.dst=some t→t ∉ o.looksAt ops)∧(∀ t,t∈r'.wr.map (·.1)→t ∉ r.rd)∧(∀ t,o.dst=some t→o'.dst≠some t)∧(∀ t,t∈r.wr.map (·.1)→t ∉ r'.wr.map (·.1)):=by
     intro k o' r' ho' hr' hne hd
     rcases Nat.lt_or_ge k i with hlt|hge
     · have hk:listed.getD k false=false:=by
        cases hk:listed.getD k false with
        | false=>rfl
        | true=>rw [hk] at hd;simp [hlt] at hd
       have hA:¬ Anc ops k i:=fun A=>by rw [anc1 k A] at hk;cases hk
       obtain ⟨f1,f2,f3,f4,f5,f6⟩:=far k i o' r' o r hlt ho' hr' ho hr hA
       exact ⟨f1,f4,fun t h1 h2=>f3 t h2 h1,fun t h1 h2=>f6 t h2 h1⟩
     · have hgt:i<k:=by omega
       have hk:listed.getD k false=true:=by
        cases hk:listed.getD k false with
        | true=>rfl
        | false=>rw [hk] at hd;simp [Nat.not_lt.2 hge] at hd
       have hA:¬ Anc ops i k:=fun A=>by rw [anc2 k A] at hk;cases hk
       obtain ⟨f1,f2,f3,f4,f5,f6⟩:=far i k o r o' r' hgt ho hr ho' hr' hA
       exact ⟨f2,f5,f3,f6⟩
    have hset:∀ j,j≠i→(listed.setIfInBounds i true).getD j false=listed.getD j false:=fun j hj=>getD_set_ne false (Ne.symm hj)
    have hseti:(listed.setIfInBounds i true).getD i false=true:=by
     have:i<listed.size:=by omega
     simp [this]
    unfold wpOpIn
    simp only [ho]
    refine hop C hZ h ρ _ _ g a w I (fun t ht=>zeR rfl (fun k d v hk hd hdt=>?_)) (fun t ht=>zem rfl (fun k wr hk hd hin'=>?_)) rr n _ Q (fun x h' ρ' w' I' hv=>?_)
    · obtain ⟨o',r',e1,e2,e3⟩:=zkA hk
      cases e3
      rw [Array.getElem?_toList] at e1
      simp only [Nat.zero_add] at hd
      by_cases hki:k=i
      · subst hki;simp [h1] at hd
      · exact (apartT k o' r' e1 e2 hki hd).1 t hdt ht
    · simp only [List.getElem?_map,Option.map_eq_some_iff] at hk
      obtain ⟨r',e2,rfl⟩:=hk
      simp only [Nat.zero_add] at hd
      have hk':k<ops.size:=by
       have:=(List.getElem?_eq_some_iff.1 e2).1
       rw [T.len,hn] at this;exact this
      by_cases hki:k=i
      · subst hki;simp [h1] at hd
      · exact (apartT k _ r' (Array.getElem?_eq_getElem hk') e2 hki hd).2.1 t hin' ht
    · have hF:stF F0 (dvs ops.toList rs) (fun j=>(listed.setIfInBounds i true).getD j false) 0=putO (stF F0 (dvs ops.toList rs) (fun j=>listed.getD j false) 0) o.dst r.v:=by
       funext t
       refine zlM (i:=i) (zoH (by rw [Array.getElem?_toList];exact ho) hr) (by simpa using h1) (by simpa using hseti) (fun j hj=>by simpa using hset j hj) (fun j e u hij hj hs t' ht'=>?_) t
       obtain ⟨o',r',e1,e2,e3⟩:=zkA hj
       cases e3
       rw [Array.getElem?_toList] at e1
       simp only [Nat.zero_add] at hs
       exact (apartT j o' r' e1 e2 (by omega) (by rw [hs];simp;omega)).2.2.1 t' ht'
      have hM:stM M0 (rs.map (·.wr)) (fun j=>(listed.setIfInBounds i true).getD j false) 0=updL (stM M0 (rs.map (·.wr)) (fun j=>listed.getD j false) 0) r.wr:=by
       funext t
       refine zlL (i:=i) (by simp [hr]) (by simpa using h1) (by simpa using hseti) (fun j hj=>by simpa using hset j hj) (fun j wr' hij hj hs t' ht'=>?_) t
       simp only [List.getElem?_map,Option.map_eq_some_iff] at hj
       obtain ⟨r',e2,rfl⟩:=hj
       simp only [Nat.zero_add] at hs
       have hj':j<ops.size:=by
        have:=(List.getElem?_eq_some_iff.1 e2).1
        rw [T.len,hn] at this;exact this
       exact (apartT j _ r' (Array.getElem?_eq_getElem hj') e2 (by omega) (by rw [hs];simp;omega)).2.2.2 t' ht'
      refine ih (listed.setIfInBounds i true) h' ρ' _ w' (by simp [hs]) ?_ ?_ ?_
      · have:=zoK (S:=fun j=>listed.getD j false) (S':=fun j=>(listed.setIfInBounds i true).getD j false) h1 hseti hset ops.size hin
        omega
      · intro j o' ho' hj e he hb
        by_cases hji:j=i
        · subst hji
          rw [ho] at ho';cases ho'
          by_cases hei:e.on=j
          · rw [hei];exact hseti
          · simp only [hset _ hei];exact hall e he hb
        · simp only [hset _ hji] at hj
          by_cases hei:e.on=i
          · rw [hei];exact hseti
          · simp only [hset _ hei];exact hcl j o' ho' hj e he hb
      · rw [hF,hM]
        exact I'.put (fun d hd=>hdst o (by rw [← Array.getElem?_toList] at ho;exact List.mem_of_getElem? ho) d hd) hv
end
end Go.Av
end
/- Rules of control. -/
section
set_option linter.all false
namespace Go.Av
structure Env (P:Program) (Γ:Tys):Prop where
 ty:zbb P Γ
 depth:8≤P.depth
 mixed:P.follows .mixedOrders=true
def At (N:Nat) (C:Ctx) (L:List (Nat×AV)) (M:List (Nat×Blk)) (g:Nat) (R:Act→World→Prop):Prop:=∀ h ρ a w,InvH N C h ρ (fr L) (mm M) g a w→R a w
def W (P:Program) (N:Nat) (rr:Option Nat) (C:Ctx) (c:Code) (L:List (Nat×AV)) (M:List (Nat×Blk)) (g:Nat) (Q:Exit→Act→World→Prop):Prop:=At N C L M g (fun a w=>c.wpIn (Fw rr) 1 P Q a w)
def zgv:List (Nat×AV)→Nat→Option AV
 | [],_=>none
 | (d,v)::r,t=>match Nat.beq t d with
  | true=>some v
  | false=>zgv r t
def zh4 (ids:List Nat) (L:List (Nat×AV)):List Nat→Option (List (Nat×AV))
 | []=>some []
 | t::ts=>match zgv L t with
  | none=>none
  | some v=>match zay ids v with
   | true=>match zh4 ids L ts with
    | some r=>some ((t,v)::r)
    | none=>none
   | false=>none
def zdE (ids:List Nat) (M:List (Nat×Blk)):List Nat→Option (List (Nat×Blk))
 | []=>some []
 | i::is=>match mm M i with
  | none=>none
  | some b=>match zeh ids b with
   | true=>match zdE ids M is with
    | some r=>some ((i,b)::r)
    | none=>none
   | false=>none
theorem zhh:∀ {L:List (Nat×AV)} {t:Nat} {v:AV},zgv L t=some v→fr L t=v
 | (d,u)::r,t,v,h=>by
  unfold zgv at h
  simp only [fr,put]
  split at h
  · rename_i hb;cases h;simp [hb]
  · rename_i hb;simp only [hb];exact zhh h
theorem zhF {ids:List Nat} {L:List (Nat×AV)}:∀ {ts:List Nat} {L':List (Nat×AV)},zh4 ids L ts=some L'→∀ t,fr L' t = .any∨(fr L' t=fr L t∧zay ids (fr L' t)=true)
 | [],L',h,t=>by
  simp only [zh4] at h;cases h;exact .inl rfl
 | s::ts,L',h,t=>by
  simp only [zh4] at h
  split at h
  · cases h
  · rename_i v hv
    split at h
    · rename_i ho
      split at h
      · rename_i r hr
        cases h
        simp only [fr,put]
        split
        · rename_i hb
          have:=Nat.eq_of_beq_eq_true hb
          subst this
          exact .inr ⟨(zhh hv).symm,ho⟩
        · exact zhF hr t
      · cases h
    · cases h
theorem zgp {ids:List Nat} {M:List (Nat×Blk)}:∀ {is:List Nat} {M':List (Nat×Blk)},zdE ids M is=some M'→(∀ i b,mm M' i=some b→mm M i=some b∧zeh ids b=true)∧∀ i,i∈is→(mm M' i).isSome=true
 | [],M',h=>by
  simp only [zdE] at h;cases h;exact ⟨fun i b h=>(by cases h),fun i h=>(by cases h)⟩
 | s::is,M',h=>by
  simp only [zdE] at h
  split at h
  · cases h
  · rename_i b hb
    split at h
    · rename_i ho
      split at h
      · rename_i r hr
        cases h
        obtain ⟨h1,h2⟩:=zgp hr
        refine ⟨fun i b' hi=>?_,fun i hi=>?_⟩
        · simp only [mm,upd] at hi
          split at hi
          · rename_i hbe
            have:=Nat.eq_of_beq_eq_true hbe
            subst this
            cases hi;exact ⟨hb,ho⟩
          · exact h1 i b' hi
        · simp only [mm,upd]
          split
          · rfl
          · rename_i hbe
            rcases List.mem_cons.1 hi with rfl|hi
            · simp at hbe
            · exact h2 i hi
      · cases h
    · cases h
section
variable {P:Program} {N:Nat} {Γ:Tys} {C:Ctx} {rr:Option Nat} {L:List (Nat×AV)} {M:List (Nat×Blk)} {g:Nat} {Q:Exit→Act→World→Prop} {R:Act→World→Prop}
theorem InvH.forget {h:Hp} {ρ:Rho} {a:Act} {w:World} (I:InvH N C h ρ (fr L) (mm M) g a w) {ids ts:List Nat} {L':List (Nat×AV)} {M':List (Nat×Blk)} (hL:zh4 ids L ts=some L') (hM:zdE ids M ids=some M') (hs:zde ids C.savA=true) :
 ∃ ρ',(∀ id,id∈ids→ρ' id=ρ id)∧InvH N C h ρ' (fr L') (mm M') g a w:=by
 obtain ⟨hM1,hM2⟩:=zgp hM
 refine ⟨fun id=>if id∈ids then ρ id else none,fun id hid=>by simp [hid],?_⟩
 have hρ:∀ id,id∈ids→(fun id=>if id∈ids then ρ id else none) id=ρ id:=fun id hid=>by simp [hid]
 have hρ':∀ id li,(fun id=>if id∈ids then ρ id else none) id=some li→ρ id=some li:=fun id li h1=>by
  simp only at h1
  split at h1
  · exact h1
  · cases h1
 refine { I with slot:=fun t=>?_,sav:=⟨I.sav.1,fun i c v h1 h2=>(I.sav.2 i c v h1 h2).forget hρ (za0 hs h1)⟩,blk:=fun id x hx=>?_,dom:=fun id hid=>?_,own:=fun id li b h1 h2=>I.own id li b (hρ' id li h1) h2,inj:=fun id id' li li' b h1 h1' h2 h2'=>I.inj id id' li li' b (hρ' _ _ h1) (hρ' _ _ h1') h2 h2',gst:=?_ }
 · rcases zhF hL t with e|⟨e,ho⟩
   · rw [e];exact .any _ _
   · have:=I.slot t
     rw [← e] at this
     exact this.forget hρ ho
 · obtain ⟨h1,ho⟩:=hM1 id x hx
   have hin:id∈ids:=by
    -- only the kept names are in M'
    have key:∀ {is:List Nat} {M'':List (Nat×Blk)},zdE ids M is=some M''→∀ i b,mm M'' i=some b→i∈is:=by
     intro is
     induction is with
     | nil=>intro M'' h i b hb;simp only [zdE] at h;cases h;cases hb
     | cons s is ih=>
      intro M'' h i b hb
      simp only [zdE] at h
      split at h
      · cases h
      · split at h
        · split at h
          · rename_i r hr
            cases h
            simp only [mm,upd] at hb
            split at hb
            · rename_i hbe;have:=Nat.eq_of_beq_eq_true hbe;subst this;exact List.mem_cons_self ..
            · exact List.mem_cons_of_mem _ (ih hr i b hb)
          · cases h
        · cases h
    exact key hM id x hx
   have H:=I.blk id x h1
   cases x with
   | cells cs=>
    obtain ⟨b,vs,ty,q1,q2,q3,q4⟩:=H
    exact ⟨b,vs,ty,(hρ id hin).trans q1,q2,q3,fun i c v hc hv=>(q4 i c v hc hv).forget hρ (za0 (by simpa [zeh] using ho) hc)⟩
   | buf ty sz n e=>
    obtain ⟨v,xs,q1,q2⟩:=H
    exact ⟨v,xs,(hρ id hin).trans q1,q2⟩
   | map z dom e n=>
    obtain ⟨b,es,clock,ks,q1,q2⟩:=H
    exact ⟨b,es,clock,ks,(hρ id hin).trans q1,q2⟩
   | iter e cur Pl=>
    obtain ⟨b,bm,clock,c0,es,seen,left,q1,q2⟩:=H
    exact ⟨b,bm,clock,c0,es,seen,left,(hρ id hin).trans q1,q2⟩
   | bufk ty sz n c e=>
    obtain ⟨v,xs,q1,q2⟩:=H
    exact ⟨v,xs,(hρ id hin).trans q1,q2⟩
   | dead=>
    obtain ⟨n,sz,q1⟩:=H
    exact ⟨n,sz,(hρ id hin).trans q1⟩
   | grid tS ty sz n m e=>
    obtain ⟨v,rows,q1,q2⟩:=H
    exact ⟨v,rows,(hρ id hin).trans q1,q2⟩
   | gmap ty sz n dom m e out=>rw [← zj7 out];exact H.zkh (fun a=>a) (hρ id hin) (fun j a v ha hr=>hr.forget hρ (by subst ha;exact ho))
   | rows ty sz hd dom m e out=>rw [← zj7 out];exact H.zj4 (fun a=>a) (hρ id hin) (fun j a v ha hr=>hr.forget hρ (by subst ha;exact ho))
 · by_cases hin:id∈ids
   · have:=hM2 id hin
     rw [hid] at this;cases this
   · simp [hin]
 · obtain ⟨X,x1,x2,x3⟩:=I.gst
   exact ⟨X,fun b ⟨id,li,h1,h2⟩=>x1 b ⟨id,li,hρ' id li h1,h2⟩,x2,x3⟩
theorem At.keep {ids ts:List Nat} {L':List (Nat×AV)} {M':List (Nat×Blk)} (hL:zh4 ids L ts=some L') (hM:zdE ids M ids=some M') (K:At N C L' M' g R) (hs:zde ids C.savA=true:=by rfl):At N C L M g R:=by
 intro h ρ a w I
 obtain ⟨ρ',_,I'⟩:=I.forget hL hM hs
 exact K h ρ' a w I'
def Sim (x y:AV):Prop:=∀ h ρ v,Rel h ρ x v→Rel h ρ y v
theorem Sim.refl (x:AV):Sim x x:=fun _ _ _ h=>h
theorem Sim.of_eq {x y:AV} (h:x=y):Sim x y:=h▸Sim.refl x
theorem Sim.any (x:AV):Sim x .any:=fun _ _ _ _=>.any _ _
inductive Agree (F:Fr):List (Nat×AV)→Prop
 | nil:Agree F []
 | cons {t:Nat} {v:AV} {r:List (Nat×AV)}:Sim (F t) v→Agree F r→Agree F ((t,v)::r)
theorem Agree.spec {F:Fr} {L':List (Nat×AV)} (H:Agree F L'):∀ t,Sim (F t) (fr L' t):=by
 induction H with
 | nil=>exact fun t=>.any _
 | cons h _ ih=>
  intro t
  simp only [fr,put]
  split
  · rename_i hb;have:=Nat.eq_of_beq_eq_true hb;subst this;exact h
  · exact ih t
theorem BSim.buf {ty sz n n':Nat} {e e':Nat→List AV} (hn:n=n') (he:∀ i,i<n→e i=e' i):BSim (.buf ty sz n e) (.buf ty sz n' e'):=by
 subst hn
 intro h ρ id w H
 obtain ⟨v,xs,q1,q2,q3,q4,q5⟩:=H
 exact ⟨v,xs,q1,q2,fun i hi=>he i hi▸q3 i hi,q4,fun i j c x hi hc hx=>q5 i j c x hi (by rw [he i hi];exact hc) hx⟩
theorem BSim.map {z:Value} {dom dom':Int→Bool} {e e':Int→AV} {n n':Nat} (h1:∀ k,dom k=dom' k) (h2:∀ k,e k=e' k) (h3:n=n'):BSim (.map z dom e n) (.map z dom' e' n'):=by
 obtain rfl:dom=dom':=funext h1
 obtain rfl:e=e':=funext h2
 subst h3
 exact .refl _
theorem Sim.ro {sz n n':Nat} {e e':Nat→List AV} (hn:n=n') (he:∀ i,i<n→e i=e' i):Sim (.ro sz n e) (.ro sz n' e'):=by
 subst hn
 intro h ρ v H
 cases H with
 | ro _ _ _ _ a cap hnil hcap hsz hs h1 hc=>exact .ro _ _ _ _ _ _ hnil hcap (fun i hi=>he i hi▸hsz i hi) hs h1 (fun i j c v hi hc' hv=>hc i j c v hi (by rw [he i hi];exact hc') hv)
theorem Sim.agg {xs ys:List AV} (hl:xs.length=ys.length) (hs:∀ (i:Nat) (x y:AV),xs[i]? = some x→ys[i]? = some y→Sim x y):Sim (.agg xs) (.agg ys):=by
 intro h ρ v H
 cases H with
 | agg _ _ vs hl' hc=>
  refine .agg _ _ _ (by rw [hl',hl]) fun i c v h1 h2=>?_
  have hi:i<xs.length:=by rw [hl];exact (List.getElem?_eq_some_iff.1 h1).1
  exact hs i xs[i] c (List.getElem?_eq_getElem hi) h1 h ρ v (hc i xs[i] v (List.getElem?_eq_getElem hi) h2)
inductive AgreeM:List (Nat×Blk)→List (Nat×Blk)→Prop
 | nil:AgreeM [] []
 | cons {i:Nat} {x y:Blk} {r s:List (Nat×Blk)}:BSim x y→AgreeM r s→AgreeM ((i,x)::r) ((i,y)::s)
theorem AgreeM.refl:∀ M,AgreeM M M
 | []=>.nil
 | (_,_)::r=>.cons (.refl _) (AgreeM.refl r)
theorem AgreeM.spec {M M':List (Nat×Blk)} (H:AgreeM M M'):∀ i,(mm M' i=none↔mm M i=none)∧∀ y,mm M' i=some y→∃ x,mm M i=some x∧BSim x y:=by
 induction H with
 | nil=>exact fun i=>⟨Iff.rfl,fun y h=>by cases h⟩
 | cons h _ ih=>
  rename_i j x y r s hr
  intro i
  simp only [mm,upd]
  split
  · exact ⟨by simp,fun y' e=>by cases e;exact ⟨_,rfl,h⟩⟩
  · exact ih i
theorem At.conv {L':List (Nat×AV)} {M':List (Nat×Blk)} (hL:Agree (fr L) L') (hM:AgreeM M M') (K:At N C L' M' g R):At N C L M g R:=by
 intro h ρ a w I
 refine K h ρ a w { I with slot:=fun t=>hL.spec t h ρ _ (I.slot t),blk:=fun id y hy=>?_,dom:=fun id hid=>I.dom id (((hM.spec id).1).1 hid) }
 obtain ⟨x,h1,h2⟩:=(hM.spec id).2 y hy
 exact h2 h ρ id w (I.blk id x h1)
def zjq (N:Nat):List Oper→Bool
 | []=>true
 | o::r=>match o.dst with
  | none=>zjq N r
  | some d=>match Nat.blt d N with
   | true=>zjq N r
   | false=>false
theorem zcq {N:Nat} {l:List Oper}:zjq N l=true→∀ o,o∈l→∀ d,o.dst=some d→d<N:=by
 induction l with
 | nil=>intro _ o ho;cases ho
 | cons x l ih=>
  intro h o ho d hd
  unfold zjq at h
  cases hx:x.dst with
  | none=>
   simp only [hx] at h
   rcases List.mem_cons.1 ho with rfl|ho
   · rw [hx] at hd;cases hd
   · exact ih h o ho d hd
  | some e=>
   simp only [hx] at h
   cases hb:Nat.blt e N with
   | false=>simp [hb] at h
   | true=>
    simp only [hb] at h
    rcases List.mem_cons.1 ho with rfl|ho
    · rw [hx] at hd;cases hd;exact Nat.le_of_ble_eq_true hb
    · exact ih h o ho d hd
def zoI (draw:Bool) (ops:Array Oper) (ft:List (List Nat×List Nat)):Bool:=match draw with
 | true=>zlR ops ft
 | false=>true
theorem W.region (E:Env P Γ) {id:Nat} {ops:Array Oper} {draw:Bool} (own:List Nat) (rvs:List RV) {A:Acc} (hr:runR Γ own ops.toList ops.toList rvs L M=some A) (hd:zjq N ops.toList=true) (ho:zoI draw ops A.ft=true) (hcs:AllP A.cs)
 (hrq:RqOk P A.rq) (K:At N C A.L A.M g (Q .normal)) (hz:FzOk own C:=by first|exact .inl rfl|exact .inr (fun _ h=>h)):W P N rr C (.region id ops draw) L M g Q:=by
 intro h ρ a w I
 obtain ⟨rs,T,hft⟩:=zc2 (N:=N) E.ty E.depth ops.toList rvs L M hr hcs.mem hrq
 cases draw with
 | false=>
  refine wpIn_region ?_
  have:=T.lex (ops:=ops) (rr:=rr) (n:=1) (Q:=Q) hz K 0 h ρ a w I (zcq hd) (fun j=>.inl (by simp))
  rw [List.range_eq_range']
  simpa using this
 | true=>
  refine wpIn_region_any E.mixed ?_
  have hcl:zjZ ops (fun i=>(Array.replicate ops.size false).getD i false):=by
   intro j o _ hj
   exfalso
   by_cases h:j<ops.size <;> simp [h] at hj
  have hfal:(fun i=>(Array.replicate ops.size false).getD i false)=fun _=>false:=by
   funext i
   by_cases h:i<ops.size <;> simp [h]
  have e1:∀ (l:List (Option Nat×AV)) (G:Fr) (k:Nat),stF G l (fun _=>false) k=G:=by
   intro l
   induction l with
   | nil=>intros;rfl
   | cons x l ih=>intro G k;obtain ⟨e,u⟩:=x;unfold stF;simp [ih]
  have e2:∀ (l:List (List (Nat×Blk))) (G:Mm) (k:Nat),stM G l (fun _=>false) k=G:=by
   intro l
   induction l with
   | nil=>intros;rfl
   | cons x l ih=>intro G k;unfold stM;simp [ih]
  have e3:∀ n,cnt (fun _=>false) n=n:=by
   intro n
   induction n with
   | zero=>rfl
   | succ n ih=>simp [cnt,ih]
  refine zoS T (by rw [← hft];exact ho) (zcq hd) hz K ops.size _ h ρ a _ (by simp) (by rw [hfal,e3]) hcl ?_
  rw [hfal,e1,e2]
  exact I.drew
theorem W.seq {x y:Code} (H:W P N rr C x L M g (Exit.then (fun a w=>y.wpIn (Fw rr) 1 P Q a w) Q)):W P N rr C (.seq x y) L M g Q:=
 fun h ρ a w I=>wpIn_seq (H h ρ a w I)
theorem W.skip (K:At N C L M g (Q .normal)):W P N rr C .skip L M g Q:=fun h ρ a w I=>wpIn_skip (K h ρ a w I)
theorem W.exit {id:Nat} (K:At N C L M g (Q (.exit id))):W P N rr C (.exit id) L M g Q:=fun h ρ a w I=>wpIn_exit (K h ρ a w I)
theorem W.ret (K:At N C L M g (Q .ret)):W P N rr C .ret L M g Q:=fun h ρ a w I=>wpIn_ret (K h ρ a w I)
theorem W.block {id:Nat} {c:Code} (H:W P N rr C c L M g (Exit.inBlock id Q)):W P N rr C (.block id c) L M g Q:=fun h ρ a w I=>wpIn_block (H h ρ a w I)
theorem W.cond {op:Operand} {x y:Code} {b:Bool} (hb:evO (fr L) op = .bool b) (ht:b=true→W P N rr C x L M g Q) (hf:b=false→W P N rr C y L M g Q):W P N rr C (.cond op x y) L M g Q:=by
 intro h ρ a w I
 have hr:Rel h ρ (.bool b) (a.eval op):=by
  rw [← hb]
  cases op with
  | tmp t=>exact I.slot t
  | const v=>exact Rel.zeL h ρ v
  | func f=>exact .fn _ _ _ _ [] [] rfl rfl (fun i c v hc=>by simp at hc) (fun i c v hc=>by simp at hc)
  | global g=>exact .any _ _
 have he:a.eval op = .bool b:=by generalize a.eval op=z at hr;cases hr;rfl
 exact wpIn_cond_split he (fun h1=>ht h1 h ρ a w I) (fun h1=>hf h1 h ρ a w I)
theorem exists_least {p:Nat→Prop} (h:∃ n,p n):∃ n,p n∧∀ m,p m→n≤m:=by
 obtain ⟨n,hn⟩:=h
 induction n using Nat.strongRecOn with
 | _ n ih=>
  by_cases hx:∃ m,m<n∧p m
  · obtain ⟨m,hm,hp⟩:=hx
    exact ih m hm hp
  · exact ⟨n,hn,fun m hm=>by
     rcases Nat.lt_or_ge m n with h|h
     · exact absurd ⟨m,h,hm⟩ hx
     · exact h⟩
theorem W.loop {S:Type} {c:Code} (J:Nat→S→Prop) (Ls:S→List (Nat×AV)) (Ms:S→List (Nat×Blk)) {n0:Nat} {s0:S} (h0:J n0 s0) (hL:Agree (fr L) (Ls s0)) (hM:AgreeM M (Ms s0))
 (round:∀ n s,J n s→∀ K:Act→World→Prop,(∀ n' s',n'<n→J n' s'→At N C (Ls s') (Ms s') g K)→W P N rr C c (Ls s) (Ms s) g (Exit.then K Q)):W P N rr C (.loop c) L M g Q:=by
 refine At.conv hL hM ?_
 intro h ρ a w I
 let J':Nat→Act→World→Prop:=fun n a w=>∃ s h ρ,J n s∧InvH N C h ρ (fr (Ls s)) (mm (Ms s)) g a w
 have hex:∃ n,J' n a w:=⟨n0,s0,h,ρ,h0,I⟩
 classical
 let μ:Act→World→Nat:=fun a w=>if hh:∃ n,J' n a w then Classical.choose (exists_least hh) else 0
 have hμ:∀ a w,(hh:∃ n,J' n a w)→J' (μ a w) a w∧∀ m,J' m a w→μ a w≤m:=fun a w hh=>by
  have:μ a w=Classical.choose (exists_least hh):=dif_pos hh
  rw [this]
  exact Classical.choose_spec (exists_least hh)
 refine wpIn_loop (fun a w=>∃ n,J' n a w) μ hex ?_
 intro a w ha
 obtain ⟨⟨s,h,ρ,hJ,I⟩,_⟩:=hμ a w ha
 refine round _ s hJ _ (fun n' s' hlt hJ' h' ρ' a' w' I'=>?_) h ρ a w I
 have hex':∃ n,J' n a' w':=⟨n',s',h',ρ',hJ',I'⟩
 exact ⟨hex',Nat.lt_of_le_of_lt ((hμ a' w' hex').2 n' ⟨s',h',ρ',hJ',I'⟩) hlt⟩
end
end Go.Av
end
/- Functions: the return; a contract out of a body. -/
section
set_option linter.all false
namespace Go.Av
def resL (Γ:Tys) (F:Fr) (M:Mm):List ResultVar→Option (List AV)
 | []=>some []
 | .tmp t::r=>match resL Γ F M r with
  | some xs=>some (F t::xs)
  | none=>none
 | .cell a t::r=>match tyOf Γ t with
  | some T=>match target M (F a) with
   | some (cs,_,none)=>match zdn T cs with
    | some v=>match resL Γ F M r with
     | some xs=>some (v::xs)
     | none=>none
    | none=>none
   | _=>none
  | none=>none
def resV:List AV→AV
 | [x]=>x
 | xs=>.tup xs
def Cq (w0:World) (h0:Hp) (SA:List AV) (SV:List Value) (br:Nat→Prop):Ctx:={ w0:=w0,h0:=h0,savA:=SA,savV:=SV,bor:=br,gh:=fun _ _ _=>True,gh_step:=fun _ _ _ _ _ _ _ _ _ _ _ _=>trivial }
abbrev Cp (w0:World) (h0:Hp):Ctx:=Cq w0 h0 [] [] (fun _=>False)
def RetQ (P:Program) (fn:Func) (h0:Hp) (w0:World) (v:AV) (B:List (Nat×Blk)):Exit→Act→World→Prop:=bodyPostM (Fw none) 1 P fn (zhS h0 w0 v B)
section
variable {P:Program} {N:Nat} {Γ:Tys} {C:Ctx} {rr:Option Nat} {L:List (Nat×AV)} {M:List (Nat×Blk)} {g:Nat} {Q:Exit→Act→World→Prop} {R:Act→World→Prop}
theorem Lies.other {w w2:World} {h:Hp} {ρ:Rho} {ad:Addr} {cs:List AV} (H:Lies w h ρ ad cs) (hk:∀ (b:Nat) (o:Obj),w.heap[b]? = some o→o.isCells=true→w2.heap[b]? = some o):Lies w2 h ρ ad cs:=by
 intro j c hc
 obtain ⟨x,h1,h2⟩:=H j c hc
 refine ⟨x,?_,h2⟩
 obtain ⟨o,e1,e2⟩:=cells_of_cell h1
 unfold World.cell? at h1 ⊢
 rw [e1] at h1
 rw [hk _ _ e1 e2]
 exact h1
theorem zjC (hΓ:zbb P Γ) {h:Hp} {ρ:Rho} {F:Fr} {Mm':Mm} {a:Act} {w w2:World} (I:InvH N C h ρ F Mm' g a w) (hk:∀ (b:Nat) (o:Obj),w.heap[b]? = some o→o.isCells=true→w2.heap[b]? = some o):∀ {l:List ResultVar} {xs:List AV},resL Γ F Mm' l=some xs →
 ∃ vs,(l.mapM (fun|.tmp t=>pure (a.tmps.getD t undef)|.cell x t=>do loadVar t (← asAddr (a.tmps.getD x undef)):ResultVar→Sem Value)).run P w2 = .ok vs w2∧RelL h ρ xs vs:=by
 intro l
 induction l with
 | nil=>intro xs hx;simp only [resL] at hx;cases hx;exact ⟨[],by simp,RelL.nil _ _⟩
 | cons r l ih=>
  intro xs hx
  cases r with
  | tmp t=>
   simp only [resL] at hx
   split at hx
   · rename_i ys hy
     cases hx
     obtain ⟨vs,h1,h2⟩:=ih hy
     exact ⟨a.tmps.getD t undef::vs,by simp only [List.mapM_cons,Sem.run_bind,Sem.run_pure,Result.andThen_ok,h1],RelL.cons (I.slot t) h2⟩
   · cases hx
  | cell x t=>
   simp only [resL] at hx
   cases hT:tyOf Γ t with
   | none=>simp [hT] at hx
   | some T=>
   simp only [hT] at hx
   cases ht:target Mm' (F x) with
   | none=>simp [ht] at hx
   | some q=>
   obtain ⟨cs,rd,c⟩:=q
   simp only [ht] at hx
   cases c with
   | some=>simp at hx
   | none=>
   simp only [] at hx
   cases hv:zdn T cs with
   | none=>simp [hv] at hx
   | some v=>
   simp only [hv] at hx
   split at hx
   · rename_i ys hy
     cases hx
     obtain ⟨vs,h1,h2⟩:=ih hy
     obtain ⟨ad,e1,e2⟩:=zhT I ht (fun _ _=>rfl) nofun (I.slot x)
     obtain ⟨z,e3,e4⟩:=zg5 (P:=P) (Lies.other e2 hk) (hΓ t T hT) hv
     have ha:(asAddr (a.tmps.getD x undef)).run P w2 = .ok ad w2:=by rw [e1];rfl
     refine ⟨z::vs,?_,RelL.cons e4 h2⟩
     simp only [List.mapM_cons,Sem.run_bind,ha,Sem.run_pure,Result.andThen_ok,e3,h1]
   · cases hx
theorem leaves {fn:Func} {tmps:Array Value} {R:Ending→World→Prop}:∀ (Ds:List Nat) (w:World),Ds.Nodup→(∀ D,D∈Ds→w.heap[D]? = some (.deferred (some []))) →
 (∀ w2:World,w2.os=w.os→w2.tape=w.tape→w2.output=w.output→w2.heap.size=w.heap.size→(∀ k,k ∉ Ds→w2.heap[k]? = w.heap[k]?)→∃ v,(results fn tmps).run P w2 = .ok v w2∧R (.returned v) w2) →
 LeavesInM (Fw none) 1 P fn tmps R (Ds.map (fun D=>{ target:=.collected D,args:=#[] })) .returning w:=by
 intro Ds
 induction Ds with
 | nil=>
  intro w _ _ H
  obtain ⟨v,h1,h2⟩:=H w rfl rfl rfl rfl (fun _ _=>rfl)
  exact ⟨v,h1,h2⟩
 | cons D Ds ih=>
  intro w hnd hD H
  refine ⟨by simp,.inl ⟨D,_,rfl,run_takeDeferred (hD D (by simp)),?_⟩⟩
  have hne:∀ k,k≠D→(w.putObj D (.deferred none)).heap[k]? = w.heap[k]? := fun k hk=>World.putObj_heap_other hk
  refine ih _ (List.nodup_cons.1 hnd).2 (fun E hE=>?_) (fun w2 e1 e2 e3 e4 e5=>H w2 e1 e2 e3 (by rw [e4];simp [World.putObj]) (fun k hk=>?_))
  · have:E≠D:=by rintro rfl;exact (List.nodup_cons.1 hnd).1 hE
    rw [hne E this]
    exact hD E (by simp [hE])
  · simp only [List.mem_cons,not_or] at hk
    rw [e5 k hk.2,hne k hk.1]
theorem zmv {h:Hp} {ρ:Rho} {xs:List AV} {vs:List Value} (h2:RelL h ρ xs vs):Rel h ρ (resV xs) (if h:vs.length=1 then vs[0] else .tuple vs.toArray):=by
 unfold resV
 split
 · rename_i x
   have:vs.length=1:=h2.1
   rw [dif_pos this]
   exact h2.2 0 x _ rfl (by simp)
 · rename_i hx
   have:vs.length≠1:=by
    intro e
    have h3:=h2.1
    rw [e] at h3
    obtain ⟨y,hy⟩:=ziq h3.symm
    exact hx y hy
   rw [dif_neg this]
   exact .tup _ _ _ h2.1 h2.2
theorem At.znO (hΓ:zbb P Γ) {w0:World} {h0:Hp} {fn:Func} {v:AV} {B:List (Nat×Blk)} {Rp:Ending→World→Prop} (hRp:∀ e w',zhS h0 w0 v B e w'→Rp e w') {xs:List AV} (hr:resL Γ (fr L) (mm M) fn.results.toList=some xs) (hval:∀ b o,h0 b=some o→w0.heap[b]? = some o)
 (H:∀ h ρ a w,InvH N (Cp w0 h0) h ρ (fr L) (mm M) g a w→∀ x,Rel h ρ (resV xs) x→∃ h1 ρ1,Le h h1∧(∀ b o,h b=some o→h1 b=some o)∧(∀ b o,h1 b=some o→w.heap[b]? = some o∧(b<w0.heap.size→h b=some o))∧Rel h1 ρ1 v x ∧
  (∀ w2:World,(∀ (b:Nat) (o:Obj),w.heap[b]? = some o→(∀ d,o ≠ .deferred d)→w2.heap[b]? = some o)→w2.heap.size=w.heap.size→Owns h1 ρ1 B w0 w2)):At N (Cp w0 h0) L M g (bodyPostM (Fw none) 1 P fn Rp .ret):=by
 intro h ρ a w I
 obtain ⟨Ds,hd1,hd2,hd3⟩:=I.dfr
 show LeavesInM (Fw none) 1 P fn a.tmps Rp a.defers .returning w
 rw [hd1]
 refine leaves Ds w hd2 (fun D hD=>I.hp _ _ (hd3 D hD).1) (fun w2 e1 e2 e3 e4 e5=>?_)
 have hnc:∀ (b:Nat) (o:Obj),w.heap[b]? = some o→(∀ d,o ≠ .deferred d)→w2.heap[b]? = some o:=fun b o hb hno=>by
  have:b ∉ Ds:=fun hb'=>by
   have:=I.hp _ _ (hd3 b hb').1
   rw [hb] at this;cases this
   exact hno _ rfl
  rw [e5 b this];exact hb
 obtain ⟨vs,h1,h2⟩:=zjC (w2:=w2) hΓ I (fun b o hb ho=>hnc b o hb (fun d e=>by subst e;simp [Obj.isCells] at ho)) hr
 have hres:(results fn a.tmps).run P w2 = .ok (if h:vs.length=1 then vs[0] else .tuple vs.toArray) w2:=by
  unfold results
  rw [Array.mapM_eq_mapM_toList]
  rw [map_eq_pure_bind]
  simp only [Sem.run_bind,Sem.run_pure]
  have key:∀ r:Result (List Value),r = .ok vs w2→(r.andThen fun a w'=>.ok a.toArray w').andThen (fun a w'=>Result.ok (if h:a.size=1 then a[0] else Value.tuple a) w') = .ok (if h:vs.length=1 then vs[0] else .tuple vs.toArray) w2:=by
   rintro _ rfl
   simp only [Result.andThen_ok,List.size_toArray,List.getElem_toArray]
  exact key _ h1
 refine ⟨_,hres,hRp _ _ ?_⟩
 obtain ⟨h1',ρ1,k1,k2,k3,k4,k5⟩:=H h ρ a w I _ (zmv h2)
 -- what is left to be read: all but the marks
 let h':Hp:=fun b=>if b∈Ds then none else h1' b
 have hle:Le h1' h':=by
  intro b o hb _ hno
  show (if b∈Ds then none else h1' b)=some o
  rw [if_neg ?_]
  · exact hb
  · intro hbD
    have h4:=(k3 b o hb).1
    rw [I.hp _ _ (hd3 b hbD).1] at h4;cases h4
    exact hno _ rfl
 have O:=k5 w2 hnc e4
 refine ⟨h',ρ1,⟨e1.trans I.os,e2.trans I.tape,e3.trans I.out,by rw [e4];exact I.sz,fun k hk=>?_⟩,fun b o hb=>?_,fun b o hb=>?_,k4.heap hle,⟨fun id x hx=>?_,O.dom,fun id li b q1 q2=>?_,O.inj⟩⟩
 · have:k ∉ Ds:=fun hkD=>by have:=(hd3 k hkD).2;exact absurd hk (Nat.not_lt.2 this)
   rw [e5 k this]
   exact I.kept k hk (fun h=>h)
 · show (if b∈Ds then none else h1' b)=some o
   have hbh:=I.ext b o hb
   rw [if_neg ?_]
   · exact k2 b o hbh
   · intro hbD
     rw [(hd3 b hbD).1] at hbh;cases hbh
     have:=(hd3 b hbD).2
     exact absurd (zfe (hval b _ hb)) (Nat.not_lt.2 this)
 · have hb':b ∉ Ds∧h1' b=some o:=by
    have:(if b∈Ds then none else h1' b)=some o:=hb
    split at this
    · cases this
    · exact ⟨by assumption,this⟩
   obtain ⟨q1,q2⟩:=k3 b o hb'.2
   rcases Nat.lt_or_ge b w0.heap.size with hlt|hge
   · exact .inl (I.old b o (q2 hlt) hlt)
   · right
     refine ⟨hge,?_⟩
     rw [e5 b hb'.1]
     exact q1
 · exact (O.blk id x hx).keep hle rfl (zcM _) (fun _ _ _ _=>rfl)
 · obtain ⟨q3,q4⟩:=O.own id li b q1 q2
   refine ⟨?_,q4⟩
   show (if b∈Ds then none else h1' b)=none
   split
   · rfl
   · exact q3
theorem At.retR (hΓ:zbb P Γ) {w0:World} {h0:Hp} {fn:Func} {v v':AV} {Rp:Ending→World→Prop} (hRp:∀ e w',zhS h0 w0 v [] e w'→Rp e w') {xs:List AV} {rd:List Nat} {c:Option Prop} (hr:resL Γ (fr L) (mm M) fn.results.toList=some xs) (hv:view (mm M) (resV xs)=some (v',rd,c)) (hc:∀ q,c=some q→q) (hs:Sim v' v)
 (hval:∀ b o,h0 b=some o→w0.heap[b]? = some o):At N (Cp w0 h0) L M g (bodyPostM (Fw none) 1 P fn Rp .ret):=by
 refine At.znO hΓ hRp hr hval fun h ρ a w I x hx=>?_
 have hview:=zjw I (Le.of I.zmL) hx hv (fun _ _=>rfl) hc (fun id hid li b q1 q2=>zmP q1 q2)
 refine ⟨hAll h ρ w,ρ0,Le.of I.zmL,I.zmL,fun b o hb=>⟨I.zpQ b o hb,fun hlt=>?_⟩,hs _ _ _ hview,fun w2 _ _=>⟨fun id x hx=>(by cases hx),fun _ _=>rfl,fun id li b h=>(by cases h),fun id id' li li' b h=>(by cases h)⟩⟩
 unfold hAll at hb
 split at hb
 · rename_i hs'
   obtain ⟨id,li,q1,q2⟩:=hs'
   rcases (I.own id li b q1 q2).2.2 with q3|q3
   · exact absurd hlt (Nat.not_lt.2 q3)
   · exact q3.elim
 · exact hb
theorem At.ret (hΓ:zbb P Γ) {w0:World} {h0:Hp} {fn:Func} {v v':AV} {xs:List AV} {rd:List Nat} {c:Option Prop} (hr:resL Γ (fr L) (mm M) fn.results.toList=some xs) (hv:view (mm M) (resV xs)=some (v',rd,c)) (hc:∀ q,c=some q→q) (hs:Sim v' v)
 (hval:∀ b o,h0 b=some o→w0.heap[b]? = some o):At N (Cp w0 h0) L M g (RetQ P fn h0 w0 v [] .ret):=
 At.retR hΓ (fun _ _ h=>h) hr hv hc hs hval
def argL:Nat→List AV→List (Nat×AV)
 | _,[]=>[]
 | k,x::r=>(k,x)::argL (k+1) r
theorem zho {h:Hp} {ρ:Rho}:∀ {xs:List AV} {vs:List Value} (k:Nat),RelL h ρ xs vs→∀ t,fr (argL k xs) t = .any∨∃ i v,t=k+i∧vs[i]? = some v∧Rel h ρ (fr (argL k xs) t) v:=by
 intro xs
 induction xs with
 | nil=>intro vs k _ t;exact .inl rfl
 | cons x xs ih=>
  intro vs k H t
  obtain ⟨v,r,rfl,h1,h2⟩:=H.zdC
  simp only [argL,fr,put]
  split
  · rename_i hb
    have:=Nat.eq_of_beq_eq_true hb
    subst this
    exact .inr ⟨0,v,rfl,rfl,h1⟩
  · rcases ih (k+1) h2 t with e|⟨i,u,e1,e2,e3⟩
    · exact .inl e
    · exact .inr ⟨i+1,u,by omega,by simpa using e2,e3⟩
theorem enters_of {f : FuncId} {fn : Func} {c : Code} (hf : P.funcs[f]? = some fn) (hn : (fn.name == "runtime.NumGoroutine") = false) (hb : fn.body = some c) : Enters P f := by
 intro args w
 have hn' : ¬ fn.name = "runtime.NumGoroutine" := by simpa using hn
 unfold callFunc
 simp [Sem.run_bind,hf,hn',hb]
theorem Ctr.zam {f : FuncId} {fn : Func} {c : Code} {xs : List AV} {v : AV} {B : List (Nat × Blk)} (hf : P.funcs[f]? = some fn) (hn : (fn.name == "runtime.NumGoroutine") = false) (hb : fn.body = some c) (hN : fn.ntmps = N) (hx : Nat.ble xs.length N = true)
 (H:∀ w0 h0,(∀ b o,h0 b=some o→w0.heap[b]? = some o)→W P N none (Cp w0 h0) c (argL 0 xs) [] 0 (RetQ P fn h0 w0 v B)):Ctr P f xs v B:=by
 refine ⟨enters_of hf hn hb,fun h w vs hR hp=>?_⟩
 refine zcV (n:=1) (callsIn_of_wp_marks hf hb trivial ?_)
 refine H w h hp h ρ0 _ w ?_
 have hlen:vs.length≤N:=by rw [hR.1];exact Nat.le_of_ble_eq_true hx
 refine ⟨fun t=>?_,⟨rfl,fun i c v h1=>by simp [Cp,Cq] at h1⟩,?_,hp,fun id x hx=>(by cases hx),fun _ _=>rfl,fun id li b h1=>(by cases h1),fun id id' li li' b h1=>(by cases h1),rfl,rfl,rfl,Nat.le_refl _,fun _ _ _=>rfl,fun b o hb=>hb,fun b o hb _=>hb,⟨fun _=>True,fun _ _=>trivial,fun _ _ _=>.inr trivial,trivial⟩,⟨[],rfl,List.nodup_nil,fun D hD=>(by cases hD)⟩⟩
 · rcases zho (h:=h) (ρ:=ρ0) 0 hR t with e|⟨i,u,e1,e2,e3⟩
   · rw [e];exact .any _ _
   · have e0:t=i:=by omega
     subst e0
     have hi:t<vs.length:=(List.getElem?_eq_some_iff.1 e2).1
     have:(vs.toArray++Array.replicate (fn.ntmps - vs.toArray.size) undef).getD t undef=u:=by
      have e4:vs[t]=u:=by have:=List.getElem?_eq_getElem hi;rw [this] at e2;exact Option.some.inj e2
      simp [Array.getElem?_append,hi,e4]
     rw [this]
     exact e3
 · simp [hN];omega
end
end Go.Av
end
/- The types of a program, by reckoning. -/
section
set_option linter.all false
namespace Go.Av
def mkDs (P:Program) (t:TypeId):TypeDesc→Option Ds
 | .int k=>some (.int k)
 | .bool=>some .bool
 | .pointer e=>some (.ptr e)
 | .slice e=>some (.slice e)
 | .array n e=>some (.array n e)
 | .map k e=>some (.map k e)
 | .func _ _ _=>some .func
 | .interface _=>some .iface
 | .struct f => if (f.toList.all fun x => (x.name != "_") && (P.info? x.type).isSome) && !P.stoodInHeld t then some (.struct (f.toList.map fun x => (x.offset, x.type))) else none
 | _=>some .other
def zn1 (d:Ds) (z:Value):Option (List Value):=match d.agg with
 | true=>match z with
  | .agg a=>some a.toList
  | _=>none
 | false=>some [z]
def mkTy (P:Program) (t:TypeId):Option TyD:=match P.info? t with
 | some i=>match i.zero with
  | some z=>match P.underlying t with
   | some d=>match mkDs P t d with
    | some ds=>match zn1 ds z with
     | some zs=>if zs.length == i.size && (zs.all fun v=>single (zeL v)) && (ds.agg || i.size == 1) then some ⟨ds,zs,i.size,i.bytes⟩ else none
     | none=>none
    | none=>none
   | none=>none
  | none=>none
 | none=>none
def zn2 (P:Program):List Nat→Option Tys
 | []=>some []
 | t::r=>match mkTy P t with
  | some T=>match zn2 P r with
   | some Γ=>some ((t,T)::Γ)
   | none=>none
  | none=>none
theorem znf {P:Program} {t:TypeId} {d:TypeDesc} {ds:Ds} (h:mkDs P t d=some ds):DsOk P t ds d:=by
 unfold mkDs at h
 cases d <;> simp only [] at h <;> (try (split at h)) <;> cases h <;> simp only [DsOk] <;> (try (first|rfl|exact ⟨_,rfl⟩|exact ⟨_,_,_,rfl⟩|(refine ⟨fun f e=>?_,fun n e' e=>?_,fun ms e=>?_⟩ <;> cases e;done)))
 rename_i f hc
 simp only [Bool.and_eq_true,List.all_eq_true,bne_iff_ne,ne_eq,Bool.not_eq_true'] at hc
 exact ⟨f,rfl,rfl,fun x hx=>(hc.1 x hx).1,hc.2,fun x hx=>(hc.1 x hx).2⟩
theorem zne {P:Program} {t:TypeId} {T:TyD} (h:mkTy P t=some T):TyOk P t T:=by
 unfold mkTy at h
 cases hi:P.info? t with
 | none=>simp [hi] at h
 | some i=>
 simp only [hi] at h
 cases hz:i.zero with
 | none=>simp [hz] at h
 | some z=>
 simp only [hz] at h
 cases hu:P.underlying t with
 | none=>simp [hu] at h
 | some d=>
 simp only [hu] at h
 cases hd:mkDs P t d with
 | none=>simp [hd] at h
 | some ds=>
 simp only [hd] at h
 cases hm:zn1 ds z with
 | none=>simp [hm] at h
 | some zs=>
 simp only [hm] at h
 split at h
 · rename_i hc
   cases h
   simp only [Bool.and_eq_true,beq_iff_eq,List.all_eq_true,Bool.or_eq_true] at hc
   obtain ⟨⟨h1,h2⟩,h3⟩:=hc
   refine ⟨⟨i,hi,rfl,rfl,?_⟩,h1,h2,fun ha=>?_,d,hu,znf hd⟩
   · rw [hz]
     unfold zn1 at hm
     unfold TyD.zeroV
     cases ha:ds.agg with
     | true=>
      simp only [ha] at hm ⊢
      cases z <;> simp only [] at hm <;> cases hm
      simp
     | false=>
      simp only [ha] at hm ⊢
      cases hm;rfl
   · simp only at ha
     rcases h3 with h3|h3
     · rw [ha] at h3;cases h3
     · exact h3
 · cases h
theorem ziO {P:Program}:∀ {ts:List Nat} {Γ:Tys},zn2 P ts=some Γ→zbb P Γ
 | [],Γ,h=>by simp only [zn2] at h;cases h;exact zbb.nil P
 | t::r,Γ,h=>by
  simp only [zn2] at h
  split at h
  · rename_i T hT
    split at h
    · rename_i G hG
      cases h
      exact zbb.cons (zne hT) (ziO hG)
    · cases h
  · cases h
end Go.Av
end
/- Rules for the printed definitions: joins, loops. -/
section
set_option linter.all false
namespace Go.Av
open Go.Sp
def roL {T:Type} [Inhabited T] (sz:Nat) (f:T→List AV) (l:List T):AV:=.ro sz l.length (fun i=>f (l.getD i default))
def bufL {T:Type} [Inhabited T] (ty sz:Nat) (f:T→List AV) (l:List T):Blk:=.buf ty sz l.length (fun i=>f (l.getD i default))
def romL {T:Type} [Inhabited T] (z:Value) (f:T→AV) (m:Mp T):AV:=.rom z (fun k=>(m.get k).isSome) (fun k=>f ((m.get k).getD default)) m.card
def mapL {T:Type} [Inhabited T] (z:Value) (f:T→AV) (m:Mp T):Blk:=.map z (fun k=>(m.get k).isSome) (fun k=>f ((m.get k).getD default)) m.card
section
variable {P:Program} {N:Nat} {Γ:Tys} {C:Ctx} {rr:Option Nat} {L:List (Nat×AV)} {M:List (Nat×Blk)} {g:Nat} {Q:Exit→Act→World→Prop}
theorem W.loopGo {S R:Type} {body:S→(S→Option R)→Option R} {n:Nat} {s0:S} {r:R} {c:Code} (H:loopGo body n s0=some r) (Ls:S→List (Nat×AV)) (Ms:S→List (Nat×Blk)) (hL:Agree (fr L) (Ls s0)) (hM:AgreeM M (Ms s0))
 (round:∀ (κ:S→Option R) (s:S),body s κ=some r→∀ K:Act→World→Prop,(∀ s',κ s'=some r→At N C (Ls s') (Ms s') g K)→W P N rr C c (Ls s) (Ms s) g (Exit.then K Q)):W P N rr C (.loop c) L M g Q:=by
 refine W.loop (S:=S) (fun n s=>Sp.loopGo body n s=some r) Ls Ms H hL hM (fun n s hJ K hK=>?_)
 cases n with
 | zero=>simp [Sp.loopGo] at hJ
 | succ n=>exact round (Sp.loopGo body n) s hJ K (fun s' hs'=>hK n s' (Nat.lt_succ_self n) hs')
theorem W.zau {S R:Type} {body:Nat→S→(S→R)→R} {exit:S→R} {b:Nat} {s0:S} {r:R} {c:Code} (H:zau body exit b 0 s0=r) (Ls:Nat→S→List (Nat×AV)) (Ms:Nat→S→List (Nat×Blk)) (hL:Agree (fr L) (Ls 0 s0)) (hM:AgreeM M (Ms 0 s0))
 (round:∀ (κ:S→R) (i:Nat) (s:S),i≤b→(i<b→body i s κ=r)→(b≤i→exit s=r)→∀ K:Act→World→Prop,(i<b→∀ s',κ s'=r→At N C (Ls (i+1) s') (Ms (i+1) s') g K)→W P N rr C c (Ls i s) (Ms i s) g (Exit.then K Q)) :
 W P N rr C (.loop c) L M g Q:=by
 refine W.loop (S:=Nat×S) (n0:=b) (s0:=(0,s0)) (fun n s=>s.1+n=b∧Sp.zau body exit n s.1 s.2=r) (fun s=>Ls s.1 s.2) (fun s=>Ms s.1 s.2) ⟨Nat.zero_add _,H⟩ hL hM (fun n s hJ K hK=>?_)
 obtain ⟨i,s⟩:=s
 obtain ⟨h1,h2⟩:=hJ
 simp only at h1 h2 hK ⊢
 cases n with
 | zero=>exact round (fun s=>exit s) i s (by omega) (fun hlt=>by omega) (fun _=>h2) K (fun hlt=>by omega)
 | succ n=>exact round (Sp.zau body exit n (i+1)) i s (by omega) (fun _=>h2) (fun hge=>by omega) K (fun _ s' hs'=>hK n (i+1,s') (Nat.lt_succ_self n) ⟨by simp only;omega,hs'⟩)
theorem At.zaX {M':List (Nat×Blk)} {R:Act→World→Prop} (hM:AgreeM M M') (K:At N C L M' g R):At N C L M g R:=by
 intro h ρ a w I
 refine K h ρ a w { I with blk:=fun id y hy=>?_,dom:=fun id hid=>I.dom id (((hM.spec id).1).1 hid) }
 obtain ⟨x,h1,h2⟩:=(hM.spec id).2 y hy
 exact h2 h ρ id w (I.blk id x h1)
theorem Sim.nil (sz:Nat) (e:Nat→List AV):Sim .nilS (.ro sz 0 e):=by
 intro h ρ v H
 cases H
 exact .ro _ _ _ _ none 0 (fun _=>rfl) ⟨Nat.le_refl _,Nat.zero_le _⟩ (fun i hi=>by omega) (fun i j hi=>by omega) (fun k v hk=>by simp at hk) (fun i j c v hi=>by omega)
theorem Sim.tup {xs ys:List AV} (hl:xs.length=ys.length) (hs:∀ (i:Nat) (x y:AV),xs[i]? = some x→ys[i]? = some y→Sim x y):Sim (.tup xs) (.tup ys):=by
 intro h ρ v H
 cases H with
 | tup _ _ vs hl' hc=>
  refine .tup _ _ _ (by rw [hl',hl]) fun i c v h1 h2=>?_
  have hi:i<xs.length:=by rw [hl];exact (List.getElem?_eq_some_iff.1 h1).1
  exact hs i xs[i] c (List.getElem?_eq_getElem hi) h1 h ρ v (hc i xs[i] v (List.getElem?_eq_getElem hi) h2)
inductive SimL:List AV→List AV→Prop
 | nil:SimL [] []
 | cons {x y:AV} {r s:List AV}:Sim x y→SimL r s→SimL (x::r) (y::s)
theorem SimL.spec {xs ys:List AV} (H:SimL xs ys):xs.length=ys.length∧∀ (i:Nat) (x y:AV),xs[i]? = some x→ys[i]? = some y→Sim x y:=by
 induction H with
 | nil=>exact ⟨rfl,fun i x y h=>by simp at h⟩
 | cons h _ ih=>
  refine ⟨by simp [ih.1],fun i x y h1 h2=>?_⟩
  cases i with
  | zero=>simp at h1 h2;subst h1 h2;exact h
  | succ i=>exact ih.2 i x y (by simpa using h1) (by simpa using h2)
theorem Sim.tupL {xs ys:List AV} (H:SimL xs ys):Sim (.tup xs) (.tup ys):=Sim.tup H.spec.1 H.spec.2
theorem Sim.aggL {xs ys:List AV} (H:SimL xs ys):Sim (.agg xs) (.agg ys):=Sim.agg H.spec.1 H.spec.2
theorem W.len {c:Code} {t sz n:Nat} {e:Nat→List AV} (ht:fr L t = .ro sz n e) (K:n≤maxLen→W P N rr C c L M g Q):W P N rr C c L M g Q:=by
 intro h ρ a w I
 have:=I.slot t
 rw [ht] at this
 generalize a.tmps.getD t undef=v at this
 cases this with
 | ro _ _ _ _ _ _ _ hcap _ _ _ _=>exact K hcap.2 h ρ a w I
theorem BSim.push {T:Type} [Inhabited T] {ty sz:Nat} {f:T→List AV} {l r:List T} {e:Nat→List AV} {n:Nat} (hn:n=r.length) (he:∀ k,k<r.length→e k=f (r.getD k default)) :
 BSim (.buf ty sz (l.length+n) (fun k=>if k<l.length then f (l.getD k default) else e (k - l.length))) (.buf ty sz (l++r).length (fun k=>f ((l++r).getD k default))):=by
 subst hn
 refine BSim.buf (by simp) (fun i hi=>?_)
 by_cases h:i<l.length
 · simp [h,List.getD_eq_getElem?_getD,List.getElem?_append_left h]
 · simp only [h,if_false]
   rw [he _ (by omega)]
   simp [List.getD_eq_getElem?_getD,List.getElem?_append_right (Nat.le_of_not_lt h)]
theorem At.zad {y:Code} (K:W P N rr C y L M g Q):At N C L M g (Exit.then (fun a w=>y.wpIn (Fw rr) 1 P Q a w) Q .normal):=K
theorem At.zaD {K:Act→World→Prop} (H:At N C L M g K):At N C L M g (Exit.then K Q .normal):=H
theorem At.inb {id:Nat} (H:At N C L M g (Q .normal)):At N C L M g (Exit.inBlock id Q .normal):=H
theorem At.rthen {K:Act→World→Prop} (H:At N C L M g (Q .ret)):At N C L M g (Exit.then K Q .ret):=H
theorem At.rinb {id:Nat} (H:At N C L M g (Q .ret)):At N C L M g (Exit.inBlock id Q .ret):=H
theorem At.xthen {K:Act→World→Prop} {i:Nat} (H:At N C L M g (Q (.exit i))):At N C L M g (Exit.then K Q (.exit i)):=H
theorem At.xhere {i:Nat} (H:At N C L M g (Q .normal)):At N C L M g (Exit.inBlock i Q (.exit i)):=by
 have e:Exit.inBlock i Q (.exit i)=Q .normal:=by funext a w;simp [Exit.inBlock]
 rw [e];exact H
theorem Ctr.sim {f:FuncId} {xs ys:List AV} {v:AV} {B:List (Nat×Blk)} (hs:SimL xs ys) (H:Ctr P f ys v B):Ctr P f xs v B:=by
 refine ⟨H.1,fun h w vs hR hp=>H.2 h w vs ?_ hp⟩
 obtain ⟨hl,hs'⟩:=hs.spec
 refine ⟨by rw [hR.1,hl],fun i c v hc hv=>?_⟩
 have hi:i<xs.length:=by rw [hl];exact (List.getElem?_eq_some_iff.1 hc).1
 exact hs' i xs[i] c (List.getElem?_eq_getElem hi) hc h ρ0 v (hR.2 i xs[i] v (List.getElem?_eq_getElem hi) hv)
theorem zgT {T:Type} [Inhabited T] {sz:Nat} {f:T→List AV} (hf:∀ x,(f x).length=sz):∀ (l:List T) (i:Nat),i<l.length→elemAt sz (l.flatMap f) i=f (l.getD i default)
 | x::l,0,_=>by
  unfold elemAt
  simp [hf x]
 | x::l,i+1,h=>by
  have:=zgT hf l i (by simpa using h)
  unfold elemAt at this ⊢
  rw [List.flatMap_cons,Nat.add_mul,Nat.one_mul,Nat.add_comm,← List.drop_drop]
  have e:(f x++l.flatMap f).drop sz=l.flatMap f:=by rw [← hf x];simp
  rw [e,this]
  simp
theorem Sim.lit {T:Type} [Inhabited T] {sz n:Nat} {f:T→List AV} {cs:List AV} (l:List T) (hn:n=l.length) (hc:cs=l.flatMap f) (hf:∀ x,(f x).length=sz):Sim (.ro sz n (elemAt sz cs)) (.ro sz l.length (fun i=>f (l.getD i default))):=by
 subst hn hc
 exact Sim.ro rfl (fun i hi=>zgT hf l i hi)
theorem At.slot {R:Act→World→Prop} {t:Nat} {v:AV} (hs:Sim (fr L t) v) (K:At N C ((t,v)::L) M g R):At N C L M g R:=by
 intro h ρ a w I
 refine K h ρ a w { I with slot:=fun u=>?_ }
 simp only [fr,put]
 split
 · rename_i hb
   have:=Nat.eq_of_beq_eq_true hb
   subst this
   exact hs h ρ _ (I.slot u)
 · exact I.slot u
theorem At.zeV {R:Act→World→Prop} (t id ty sz:Nat) {e:Nat→List AV} (ht:fr L t = .nilS) (hid:mm M id=none) (K:At N C ((t,.buf id 0)::L) ((id,.buf ty sz 0 e)::M) g R):At N C L M g R:=by
 intro h ρ a w I
 have hρ:=I.dom id hid
 have hle:∀ i l,ρ i=some l→∃ l',upd ρ id (some (.sl 0 sz (.slice none 0 0))) i=some l'∧l.le l':=by
  intro i l hi
  have hne:i≠id:=by rintro rfl;rw [hρ] at hi;cases hi
  exact ⟨l,by rw [zae _ _ hne];exact hi,.inl rfl⟩
 have I':InvH N C h (upd ρ id (some (.sl 0 sz (.slice none 0 0)))) (fr L) (mm ((id,.buf ty sz 0 e)::M)) g a w:=by
  refine I.step (S:=fun i=>i=id) rfl rfl rfl (Nat.le_refl _) (fun _ _ _=>rfl) (fun i hi=>zae _ _ hi) hle (fun _ _ h=>h) (fun _ _ h=>.inl h) (fun i hi=>zae _ _ hi) ?_ ?_ ?_ ?_
  · rintro i rfl hM;simp only [mm] at hM;rw [zah] at hM;cases hM
  · rintro i y rfl hM;simp only [mm] at hM;rw [zah] at hM;cases hM
    exact ⟨.slice none 0 0,[],zah _ _ _,⟨by simp,.inl ⟨rfl,rfl⟩⟩,fun j hj=>(by omega),fun x hx=>(by cases hx),fun j k c x hj=>(by omega)⟩
  · rintro i l b rfl h1 h2;rw [zah] at h1;cases h1;simp [LI.owns,Value.ownBlock] at h2
  · rintro i i' l l' b rfl rfl _ _ _ _;rfl
 refine K h _ a w { I' with slot:=fun u=>?_ }
 simp only [fr,put]
 split
 · rename_i hb
   have:=Nat.eq_of_beq_eq_true hb
   subst this
   have hv:=I.slot u
   rw [ht] at hv
   generalize a.tmps.getD u undef=x at hv
   cases hv
   exact .buf _ _ _ _ _ _ _ (zah _ _ _) (Nat.le_refl _) rfl (fun _=>rfl)
 · exact I'.slot u
def Seg {T:Type} [Inhabited T] (f:T→List AV) (n:Nat) (e:Nat→List AV) (l:List T):Prop:=n=l.length∧∀ k,k<n→e k=f (l.getD k default)
theorem Seg.refl {T:Type} [Inhabited T] (f:T→List AV) (l:List T):Seg f l.length (fun k=>f (l.getD k default)) l:=⟨rfl,fun _ _=>rfl⟩
theorem Seg.lit {T:Type} [Inhabited T] {f:T→List AV} {sz n:Nat} {cs:List AV} (l:List T) (hn:n=l.length) (hc:cs=l.flatMap f) (hf:∀ x,(f x).length=sz):Seg f n (elemAt sz cs) l:=by
 subst hn hc
 exact ⟨rfl,fun k hk=>zgT hf l k hk⟩
theorem Seg.made {T:Type} [Inhabited T] {f:T→List AV} {n:Nat} (x:T) {e:List AV} (he:e=f x):Seg f n (fun _=>e) (List.replicate n x):=by
 subst he
 exact ⟨by simp,fun k hk=>by simp [List.getD_eq_getElem?_getD,hk]⟩
theorem Seg.push {T:Type} [Inhabited T] {f:T→List AV} {n m:Nat} {e e':Nat→List AV} {l r:List T} (h:Seg f n e l) (h':Seg f m e' r):Seg f (n+m) (fun k=>if k<n then e k else e' (k - n)) (l++r):=by
 obtain ⟨rfl,h1⟩:=h
 obtain ⟨rfl,h2⟩:=h'
 refine ⟨by simp,fun k hk=>?_⟩
 by_cases h:k<l.length
 · simp only [h,if_true]
   rw [h1 k h]
   simp [List.getD_eq_getElem?_getD,List.getElem?_append_left h]
 · simp only [h,if_false]
   rw [h2 _ (by omega)]
   simp [List.getD_eq_getElem?_getD,List.getElem?_append_right (Nat.le_of_not_lt h)]
theorem Seg.set {T:Type} [Inhabited T] {f:T→List AV} {n i:Nat} {e:Nat→List AV} {l:List T} {es:List AV} (h:Seg f n e l) (x:T) (he:es=f x):Seg f n (fun k=>if k=i then es else e k) (l.set i x):=by
 obtain ⟨rfl,h1⟩:=h
 subst he
 refine ⟨by simp,fun k hk=>?_⟩
 by_cases h:k=i
 · subst h;simp [List.getD_eq_getElem?_getD,hk]
 · simp only [h,if_false]
   rw [h1 k hk]
   simp [List.getD_eq_getElem?_getD,List.getElem?_set_ne (Ne.symm h)]
theorem Seg.take {T:Type} [Inhabited T] (f:T→List AV) (l:List T) (a:Nat) (h:a≤l.length):Seg f a (fun k=>f (l.getD k default)) (l.take a):=by
 refine ⟨by simp;omega,fun k hk=>?_⟩
 simp [List.getD_eq_getElem?_getD,List.getElem?_take,hk]
theorem Seg.drop {T:Type} [Inhabited T] (f:T→List AV) (l:List T) (a:Nat):Seg f (l.length - a) (fun k=>f (l.getD (a+k) default)) (l.drop a):=by
 refine ⟨by simp,fun k hk=>?_⟩
 simp [List.getD_eq_getElem?_getD,List.getElem?_drop]
theorem Sim.seg {T:Type} [Inhabited T] {sz n:Nat} {f:T→List AV} {e:Nat→List AV} {l:List T} (h:Seg f n e l):Sim (.ro sz n e) (roL sz f l):=Sim.ro h.1 h.2
theorem BSim.seg {T:Type} [Inhabited T] {ty sz n:Nat} {f:T→List AV} {e:Nat→List AV} {l:List T} (h:Seg f n e l):BSim (.buf ty sz n e) (bufL ty sz f l):=BSim.buf h.1 h.2
end
end Go.Av
end
/- A scope of labels, without jumps to them; maps read as such. -/
section
set_option linter.all false
namespace Go
section
variable {F:Fence} {n:Nat} {P:Program} {b:Frame} {a:Act} {k:List Item} {cs:List Frame} {w:World} {Q:Exit→Act→World→Prop}
end
end Go
namespace Go.Av
section
variable {P:Program} {N:Nat} {Γ:Tys} {C:Ctx} {rr:Option Nat} {L:List (Nat×AV)} {M:List (Nat×Blk)} {g:Nat} {Q:Exit→Act→World→Prop}
theorem W.zkd {S R:Type} {f:(S→R)→R} {k:S→R} {r:R} {x y:Code} (H:Sp.ziV f k=r) (Ls:S→List (Nat×AV)) (Ms:S→List (Nat×Blk))
 (rest:∀ s,k s=r→W P N rr C y (Ls s) (Ms s) g Q)
 (first:∀ κ:S→R,f κ=r→(∀ s,κ s=r→At N C (Ls s) (Ms s) g (fun a w=>y.wpIn (Fw rr) 1 P Q a w))→W P N rr C x L M g (Exit.then (fun a w=>y.wpIn (Fw rr) 1 P Q a w) Q)):W P N rr C x L M g (Exit.then (fun a w=>y.wpIn (Fw rr) 1 P Q a w) Q):=
 first k H rest
end
def zjB:List AV→Nat→Nat→Option (List AV)
 | .nilS::r,0,id=>some (.buf id 0::r)
 | x::r,n+1,id=>match zjB r n id with
  | some r'=>some (x::r')
  | none=>none
 | _,_,_=>none
theorem zlN {id:Nat}:∀ {cs cs':List AV} {j:Nat},zjB cs j id=some cs'→cs'.length=cs.length∧∀ (i:Nat) (c:AV),cs'[i]? = some c→cs[i]? = some c∨(c = .buf id 0∧cs[i]? = some .nilS):=by
 intro cs
 induction cs with
 | nil=>intro cs' j h;cases j <;> simp [zjB] at h
 | cons x r ih=>
  intro cs' j h
  cases j with
  | zero=>
   cases x <;> simp only [zjB] at h <;> cases h
   refine ⟨rfl,fun i c hc=>?_⟩
   cases i with
   | zero=>simp at hc;subst hc;exact .inr ⟨rfl,rfl⟩
   | succ i=>exact .inl (by simpa using hc)
  | succ j=>
   simp only [zjB] at h
   split at h
   · rename_i r' hr
     cases h
     obtain ⟨h1,h2⟩:=ih hr
     refine ⟨by simp [h1],fun i c hc=>?_⟩
     cases i with
     | zero=>exact .inl (by simpa using hc)
     | succ i=>simpa using h2 i c (by simpa using hc)
   · cases h
section
variable {N:Nat} {C:Ctx} {L:List (Nat×AV)} {M:List (Nat×Blk)} {g:Nat}
theorem At.zbM {R:Act→World→Prop} (i0 j0 id ty sz:Nat) {e:Nat→List AV} {cs cs':List AV} (hc:mm M i0=some (.cells cs)) (hs:zjB cs j0 id=some cs') (hid:mm M id=none) (K:At N C L ((i0,.cells cs')::(id,.buf ty sz 0 e)::M) g R):At N C L M g R:=by
 intro h ρ a w I
 have hρ:=I.dom id hid
 have hne0:i0≠id:=by rintro rfl;rw [hc] at hid;cases hid
 have hle:∀ i l,ρ i=some l→∃ l',upd ρ id (some (.sl 0 sz (.slice none 0 0))) i=some l'∧l.le l':=by
  intro i l hi
  have hne:i≠id:=by rintro rfl;rw [hρ] at hi;cases hi
  exact ⟨l,by rw [zae _ _ hne];exact hi,.inl rfl⟩
 have I':InvH N C h (upd ρ id (some (.sl 0 sz (.slice none 0 0)))) (fr L) (mm ((id,.buf ty sz 0 e)::M)) g a w:=by
  refine I.step (S:=fun i=>i=id) rfl rfl rfl (Nat.le_refl _) (fun _ _ _=>rfl) (fun i hi=>zae _ _ hi) hle (fun _ _ h=>h) (fun _ _ h=>.inl h) (fun i hi=>zae _ _ hi) ?_ ?_ ?_ ?_
  · rintro i rfl hM;simp only [mm] at hM;rw [zah] at hM;cases hM
  · rintro i y rfl hM;simp only [mm] at hM;rw [zah] at hM;cases hM
    exact ⟨.slice none 0 0,[],zah _ _ _,⟨by simp,.inl ⟨rfl,rfl⟩⟩,fun j hj=>(by omega),fun x hx=>(by cases hx),fun j k c x hj=>(by omega)⟩
  · rintro i l b rfl h1 h2;rw [zah] at h1;cases h1;simp [LI.owns,Value.ownBlock] at h2
  · rintro i i' l l' b rfl rfl _ _ _ _;rfl
 refine K h _ a w { I' with blk:=fun i x hx=>?_,dom:=fun i hi=>I'.dom i ?_ }
 · simp only [mm] at hx
   by_cases hi:i=i0
   · subst hi
     rw [zah] at hx;cases hx
     have hold:mm ((id,.buf ty sz 0 e)::M) i=some (.cells cs):=by simp only [mm];rw [zae _ _ hne0];exact hc
     obtain ⟨b,vs,ty',q1,q2,q3,q4⟩:=I'.blk i _ hold
     obtain ⟨s1,s2⟩:=zlN hs
     refine ⟨b,vs,ty',q1,q2,by rw [q3,s1],fun j c v hj hv=>?_⟩
     rcases s2 j c hj with e1|⟨rfl,e1⟩
     · exact q4 j c v e1 hv
     · have:=q4 j _ v e1 hv
       cases this
       exact .buf _ _ _ _ _ _ _ (zah _ _ _) (Nat.le_refl _) rfl (fun _=>rfl)
   · rw [zae _ _ hi] at hx
     exact I'.blk i x hx
 · simp only [mm] at hi ⊢
   by_cases hi0:i=i0
   · subst hi0;rw [zah] at hi;cases hi
   · rw [zae _ _ hi0] at hi;exact hi
end
open Go.Sp
def MSeg {T:Type} [Inhabited T] (f:T→AV) (dom:Int→Bool) (e:Int→AV) (n:Nat) (m:Mp T):Prop:=(∀ k,dom k=(m.get k).isSome)∧(∀ k,e k=f ((m.get k).getD default))∧n=m.card
theorem MSeg.refl {T:Type} [Inhabited T] (f:T→AV) (m:Mp T):MSeg f (fun k=>(m.get k).isSome) (fun k=>f ((m.get k).getD default)) m.card m:=⟨fun _=>rfl,fun _=>rfl,rfl⟩
theorem MSeg.set {T:Type} [Inhabited T] {f:T→AV} {dom:Int→Bool} {e:Int→AV} {n:Nat} {m:Mp T} (h:MSeg f dom e n m) {q:Int} (x:T) {ex:AV} (hx:ex=f x) :
 MSeg f (fun j=>decide (j=q) || dom j) (fun j=>bif decide (j=q) then ex else e j) (bif dom q then n else n+1) (m.set q x):=by
 obtain ⟨h1,h2,rfl⟩:=h
 subst hx
 refine ⟨fun k=>?_,fun k=>?_,?_⟩
 · by_cases hk:k=q
   · subst hk;simp [Mp.set]
   · simp [Mp.set,hk,h1]
 · by_cases hk:k=q
   · subst hk;simp [Mp.set]
   · simp [Mp.set,hk,h2]
 · rw [h1]
   simp only [Mp.set]
   cases (m.get q).isSome <;> rfl
theorem BSim.mseg {T:Type} [Inhabited T] {z:Value} {f:T→AV} {dom:Int→Bool} {e:Int→AV} {n:Nat} {m:Mp T} (h:MSeg f dom e n m):BSim (.map z dom e n) (mapL z f m):=BSim.map h.1 h.2.1 h.2.2
end Go.Av
end
/- Ranges over functions: what an iterator promises; the statement. -/
section
set_option linter.all false
namespace Go.Av
open Go.Sp
def Stab (J:(Nat→Prop)→World→Prop):Prop:=∀ (X X':Nat→Prop) (w w':World),J X w→w'.os=w.os→w'.tape=w.tape→w'.output=w.output→w.heap.size≤w'.heap.size→(∀ k,k<w.heap.size→¬ X k→w'.heap[k]? = w.heap[k]?) →
 (∀ b,X' b→X b∨w.heap.size≤b)→J X' w'
def zlE (h:Hp) (X:Nat→Prop) (W:World) (J:Bool→World→Prop):Ending→World→Prop:=fun e W'=>∃ b,e = .returned (.bool b)∧J b W'∧W'.os=W.os∧W'.tape=W.tape∧W'.output=W.output∧W.heap.size≤W'.heap.size ∧
 (∀ k,k<W.heap.size→X k→W'.heap[k]? = W.heap[k]?)∧∀ k o,h k=some o→W'.heap[k]? = some o
def zlD (h0:Hp) (x y:AV):Prop:=∀ h ρ v,Rel h ρ x v→Rel h0 ρ0 y v
inductive UnL (h0:Hp):List AV→List AV→Prop
 | nil:UnL h0 [] []
 | cons {x y:AV} {xs ys:List AV}:zlD h0 x y→UnL h0 xs ys→UnL h0 (x::xs) (y::ys)
theorem zlD.gr {h0:Hp} {x:AV} (hg:x.gr=true):zlD h0 x x:=fun _ _ _ H=>H.zpZ hg
theorem zlD.pin {h0:Hp} {x:AV}:zlD h0 (.pin h0 x) x:=fun _ _ _ H=>by cases H with|pin _ _ _ _ hl hv=>exact hv
theorem UnL.spec {h0:Hp} {xs ys:List AV} (H:UnL h0 xs ys):xs.length=ys.length∧∀ (i:Nat) (y:AV),ys[i]? = some y→∃ x,xs[i]? = some x∧zlD h0 x y:=by
 induction H with
 | nil=>exact ⟨rfl,fun i y h=>by simp at h⟩
 | cons h _ ih=>
  refine ⟨by simp [ih.1],fun i y hy=>?_⟩
  cases i with
  | zero=>simp at hy;subst hy;exact ⟨_,rfl,h⟩
  | succ i=>simpa using ih.2 i y (by simpa using hy)
theorem zlD.agg {h0:Hp} {xs ys:List AV} (H:UnL h0 xs ys):zlD h0 (.agg xs) (.agg ys):=by
 intro h ρ v R
 cases R with
 | agg _ _ vs hl hc=>
  refine .agg _ _ _ (by rw [hl,H.spec.1]) fun i c v h1 h2=>?_
  obtain ⟨x,e1,e2⟩:=H.spec.2 i c h1
  exact e2 h ρ v (hc i x v e1 h2)
theorem UnL.rel {h0 h:Hp} {ρ:Rho} {xs ys:List AV} {vs:List Value} (H:UnL h0 xs ys) (R:RelL h ρ xs vs):RelL h0 ρ0 ys vs:=by
 refine ⟨by rw [R.1,H.spec.1],fun i c v h1 h2=>?_⟩
 obtain ⟨x,e1,e2⟩:=H.spec.2 i c h1
 exact e2 h ρ v (R.2 i x v e1 h2)
def Yld (P:Program) (h:Hp) (l:Nat) (J:Nat→(Nat→Prop)→World→Prop) (items:List (List AV)):Prop:=
 ∀ (k:Nat) (X:Nat→Prop) (W:World) (it:List AV) (us:List Value),J (k+1) X W→items[k]? = some it→RelL h ρ0 it us →
  ∃ fn tmps assign body,(Instr.yield l us.toArray).run P W = .ok (.round l fn tmps assign body) W∧RoundIn (Fw none) 1 P l fn tmps assign body W (zlE h X W (fun b=>J (bif b then k+2 else 0) (fun b'=>X b'∧b'<W.heap.size)))
def zkJ (J:Nat→(Nat→Prop)→World→Prop) (n:Nat):Ending→World→Prop:=fun e w'=>(∃ v,e = .returned v)∧∃ X,J (n+1) X w'∨J 0 X w'
def Iter (P:Program) (f:FuncId) (caps:List AV) (items:List (List AV)):Prop:=
 Enters P f∧∀ (h:Hp) (w:World) (vs:List Value),RelL h ρ0 caps vs→(∀ b o,h b=some o→w.heap[b]? = some o) →
  ∀ (l:Nat) (J:Nat→(Nat→Prop)→World→Prop),(∀ k,Stab (J k))→Yld P h l J items→J 1 (fun _=>False) w→CallsIn (Fw none) 0 P f (Value.func (.yield l) #[] #[]::vs).toArray w (zkJ J items.length)
def Ci (w0:World) (h0:Hp) (J:Nat→(Nat→Prop)→World→Prop) (hJ:∀ k,Stab (J k)):Ctx:={ w0:=w0,h0:=h0,savA:=[],savV:=[],bor:=fun b=>h0 b=none,gh:=J,gh_step:=fun g X X' w w'=>hJ g X X' w w' }
def zpH (P:Program) (fn:Func) (J:Nat→(Nat→Prop)→World→Prop) (n:Nat):Exit→Act→World→Prop:=bodyPostM (Fw none) 1 P fn (zkJ J n)
theorem zkV {P:Program} {l f:Nat} {tmps:Array Value} {assign body:Code} {w:World} {R:Ending→World→Prop} {n n':Nat} (H:RoundIn (Fw none) n P l f tmps assign body w R):RoundIn (Fw none) n' P l f tmps assign body w R:=
 ⟨trivial,fun c cs _=>H.2 c cs (zpI _ _)⟩
section
variable {P:Program} {N:Nat} {Γ:Tys} {C:Ctx} {rr:Option Nat} {L:List (Nat×AV)} {M:List (Nat×Blk)} {g:Nat} {Q:Exit→Act→World→Prop} {R:Act→World→Prop}
variable {w0:World} {h0:Hp} {J:Nat→(Nat→Prop)→World→Prop} {hJ:∀ k,Stab (J k)}
theorem InvH.zjW {h:Hp} {ρ:Rho} {F:Fr} {Mx:Mm} {a:Act} {w W':World} {g':Nat} (I:InvH N (Ci w0 h0 J hJ) h ρ F Mx g a w) {X:Nat→Prop} (x1:∀ b,zcs ρ b→X b) (x2:∀ b o,h b=some o→h0 b=some o∨X b)
 (hos:W'.os=w.os) (htape:W'.tape=w.tape) (hout:W'.output=w.output) (hsz:w.heap.size≤W'.heap.size) (hX:∀ k,k<w.heap.size→X k→W'.heap[k]? = w.heap[k]?) (hh:∀ k o,h0 k=some o→W'.heap[k]? = some o) (hJ':J g' (fun b=>X b∧b<w.heap.size) W'):InvH N (Ci w0 h0 J hJ) h ρ F Mx g' a W':=by
 refine { I with hp:=fun b o hb=>?_,blk:=fun id x hx=>?_,own:=fun id li b q1 q2=>?_,os:=hos.trans I.os,tape:=htape.trans I.tape,out:=hout.trans I.out,sz:=Nat.le_trans I.sz hsz,kept:=fun k hk hb=>?_,gst:=⟨_,fun b hb=>⟨x1 b hb,let ⟨id,li,q1,q2⟩:=hb;(I.own id li b q1 q2).2.1⟩,fun b o hb=>(x2 b o hb).imp (fun h=>h) (fun h=>⟨h,I.hlt hb⟩),hJ'⟩ }
 · rcases x2 b o hb with h1|h1
   · exact hh b o h1
   · rw [hX b (I.hlt hb) h1];exact I.hp b o hb
 · exact (I.blk id x hx).keep (Le.refl h) rfl (zcM _) (fun li b q1 q2=>hX b (I.own id li b q1 q2).2.1 (x1 b ⟨id,li,q1,q2⟩))
 · obtain ⟨q3,q4,q5⟩:=I.own id li b q1 q2
   exact ⟨q3,Nat.lt_of_lt_of_le q4 hsz,q5⟩
 · rw [← I.kept k hk hb]
   cases ho:h0 k with
   | none=>exact absurd ho hb
   | some o=>rw [hh k o ho,I.hp k o (I.ext k o ho)]
theorem Trace.lexK {ops:Array Oper} {F F':Fr} {M M':Mm} {os:List Oper} {rs:List OpRes} {Z:Ctx→Prop} (T:Trace Z P N ops F M os rs F' M') {C:Ctx} (hZ:Z C) {g:Nat} {rr:Option Nat} {n:Nat} {Q:Exit→Act→World→Prop} (rest:List Nat)
 (hQ:∀ h ρ a w,InvH N C h ρ F' M' g a w→wpOpsIn (Fw rr) n P ops Q rest a w):∀ (k:Nat) (h:Hp) (ρ:Rho) (a:Act) (w:World),InvH N C h ρ F M g a w→(∀ o,o∈os→∀ d,o.dst=some d→d<N)→(∀ j,os[j]? = ops[k+j]? ∨ os.length≤j) →
  wpOpsIn (Fw rr) n P ops Q (List.range' k os.length++rest) a w:=by
 induction T with
 | nil F M=>intro k h ρ a w I _ _;exact hQ h ρ a w I
 | cons hop _ ih=>
  rename_i F M o r os rs F' M' T'
  intro k h ρ a w I hd hos
  have h0:ops[k]? = some o:=by
   rcases hos 0 with e|e
   · simpa using e.symm
   · simp at e
  simp only [List.length_cons,List.range'_succ,List.cons_append]
  rw [wpOpsIn_cons]
  unfold wpOpIn
  simp only [h0]
  refine hop C hZ h ρ F M g a w I (fun _ _=>rfl) (fun _ _=>rfl) rr n _ Q (fun x h' ρ' w' I' hv=>ih hQ (k+1) h' ρ' _ w' (I'.put (fun d hd'=>hd o (List.mem_cons_self ..) d hd') hv) (fun o' ho'=>hd o' (List.mem_cons_of_mem _ ho')) (fun j=>?_))
  rcases hos (j+1) with e|e
  · left;simpa [Nat.add_assoc,Nat.add_comm 1 j] using e
  · right;simpa using e
theorem ziF {a:Act} {o:Oper} {f:Operand} {args:Array Operand} {ts:Array TypeId} (ho:o.op = .call { callee:=.value f,args:=args,argTypes:=ts }) {l:Nat} (he:a.eval f = .func (.yield l) #[] #[]) (w:World) :
 (execOp a.eval o).run P w=(Instr.yield l (args.map a.eval)).run P w:=by
 unfold execOp
 simp [ho,resolve,Deferred.ofValue,invoke,he]
theorem RelL.closed {h:Hp} {ρ:Rho} {cs:List AV} {vs:List Value} (H:RelL h ρ0 cs vs):RelL h ρ cs vs:=⟨H.1,fun i c v a b=>(H.2 i c v a b).closed⟩
theorem At.iret {fn:Func} {n:Nat} (hr:fn.results.toList=[]) (hg:g=0∨g=n+1) (hval:∀ b o,h0 b=some o→w0.heap[b]? = some o):At N (Ci w0 h0 J hJ) L M g (zpH P fn J n .ret):=by
 intro h ρ a w I
 obtain ⟨Ds,hd1,hd2,hd3⟩:=I.dfr
 obtain ⟨X,x1,x2,x3⟩:=I.gst
 show LeavesInM (Fw none) 1 P fn a.tmps (zkJ J n) a.defers .returning w
 rw [hd1]
 refine leaves Ds w hd2 (fun D hD=>I.hp _ _ (hd3 D hD).1) (fun w2 e1 e2 e3 e4 e5=>?_)
 have hJ2:J g X w2:=hJ g X X w w2 x3 e1 e2 e3 (by omega) (fun k _ hk=>e5 k (fun hkD=>by
  rcases x2 k _ (hd3 k hkD).1 with h1|h1
  · exact absurd (zfe (hval k _ h1)) (Nat.not_lt.2 (hd3 k hkD).2)
  · exact hk h1)) (fun b hb=>.inl hb)
 refine ⟨.tuple #[],?_,⟨_,rfl⟩,X,?_⟩
 · unfold results
   rw [Array.mapM_eq_mapM_toList,hr]
   simp [Sem.run_bind]
 · rcases hg with rfl|rfl
   · exact .inr hJ2
   · exact .inl hJ2
end
end Go.Av
end
/- A region that draws its order and yields once, with all that stands ahead of the yield done by then: whatever the order. -/
section
set_option linter.all false
namespace Go.Av
open Go.Sp
theorem intEq {k:IntKind} {n m:Int} (h:n=m):AV.int k n=AV.int k m:=h▸rfl
def zpD (m:Nat):Nat→Bool
 | 0=>true
 | n+1=>match m.testBit n with
  | true=>zpD m n
  | false=>false
def hasB (k:Nat):List Item→Bool
 | []=>true
 | x::r=>match x.mask.testBit k with
  | true=>hasB k r
  | false=>false
def znX (ops:Array Oper) (ft:List (List Nat×List Nat)) (k:Nat):Bool:=match items ops ops.toList ft [] 0 with
 | some l=>match nthN k l with
  | some x=>match znU 0 l with
   | true=>match zpD x.mask k with
    | true=>hasB k (l.drop (k+1))
    | false=>false
   | false=>false
  | none=>false
 | none=>false
theorem zjR {m:Nat}:∀ {n:Nat},zpD m n=true→∀ i,i<n→m.testBit i=true
 | n+1,h,i,hi=>by
  unfold zpD at h
  split at h
  · rename_i hb
    by_cases e:i=n
    · rw [e];exact hb
    · exact zjR h i (by omega)
  · cases h
theorem zli {k:Nat}:∀ {l:List Item},hasB k l=true→∀ (j:Nat) (x:Item),l[j]? = some x→x.mask.testBit k=true
 | y::r,h,j,x,hx=>by
  unfold hasB at h
  split at h
  · rename_i hb
    cases j with
    | zero=>simp at hx;subst hx;exact hb
    | succ j=>exact zli h j x (by simpa using hx)
  · cases h
section
variable {P:Program} {N:Nat} {ops:Array Oper}
def Far (ops:Array Oper) (fts:List (List Nat×List Nat)):Prop:=
 ∀ (i j:Nat) (o o':Oper) (f f':List Nat×List Nat),i<j→ops[i]? = some o→fts[i]? = some f→ops[j]? = some o'→fts[j]? = some f'→¬ Anc ops i j →
  (∀ t,o.dst=some t→t ∉ o'.looksAt ops)∧(∀ t,o'.dst=some t→t ∉ o.looksAt ops)∧(∀ t,o.dst=some t→o'.dst≠some t)∧(∀ t,t∈f.2→t ∉ f'.1)∧(∀ t,t∈f'.2→t ∉ f.1)∧(∀ t,t∈f.2→t ∉ f'.2)
def Back (ops:Array Oper):Prop:=∀ (i:Nat) (o:Oper) (e:Edge),ops[i]? = some o→e∈o.after→Region.binds .any e=true→e.on<i
theorem ziN {fts:List (List Nat×List Nat)} {k:Nat} (h:znX ops fts k=true):Far ops fts∧Back ops∧(∀ i,i<k→Anc ops i k)∧(∀ j,k<j→j<ops.size→Anc ops k j)∧fts.length=ops.size:=by
 unfold znX at h
 split at h
 case h_2=>cases h
 rename_i l hl
 split at h
 case h_2=>cases h
 rename_i x hx
 split at h
 case h_2=>cases h
 rename_i hok
 split at h
 case h_2=>cases h
 rename_i hbits
 obtain ⟨hlen,hft,hit⟩:=zhC hl rfl (fun k i h=>by simp at h) (fun k=>.inl (by simp))
 simp only [Nat.zero_add] at hit
 have hn:ops.toList.length=ops.size:=by simp
 have hpair:=zhz hok
 simp only [Nat.zero_add] at hpair
 refine ⟨?_,?_,?_,?_,by rw [hft,hn]⟩
 · intro i j o o' f f' hij ho hf ho' hf' hA
   have hi:i<l.length:=by rw [hlen,hn];exact (Array.getElem?_eq_some_iff.1 ho).1
   have hj:j<l.length:=by rw [hlen,hn];exact (Array.getElem?_eq_some_iff.1 ho').1
   obtain ⟨o1,f1,h1,h2,a1,a2,a3,a4,_,_⟩:=hit i l[i] (List.getElem?_eq_getElem hi)
   obtain ⟨o2,f2,h3,h4,b1,b2,b3,b4,b5,_⟩:=hit j l[j] (List.getElem?_eq_getElem hj)
   rw [Array.getElem?_toList,ho] at h1;cases h1
   rw [Array.getElem?_toList,ho'] at h3;cases h3
   rw [hf] at h2;cases h2
   rw [hf'] at h4;cases h4
   have h0:=hpair i j _ _ hij (List.getElem?_eq_getElem hi) (List.getElem?_eq_getElem hj)
   have hc:confl l[i] l[j]=false:=by
    unfold zkY at h0
    split at h0
    · exact absurd (b5 i h0) hA
    · assumption
   unfold confl at hc
   simp only [Bool.or_eq_false_iff] at hc
   obtain ⟨⟨⟨⟨⟨c1,c2⟩,c3⟩,c4⟩,c5⟩,c6⟩:=hc
   refine ⟨fun t ht hin=>?_,fun t ht hin=>?_,fun t ht hin=>?_,fun t ht hin=>?_,fun t ht hin=>?_,fun t ht hin=>?_⟩
   · rw [zgr (a1.trans ht) (b2▸hin)] at c1;cases c1
   · rw [zgr (b1.trans ht) (a2▸hin)] at c2;cases c2
   · rw [a1.trans ht,b1.trans hin] at c3;simp [zlO] at c3
   · rw [zdL (a4▸ht) (b3▸hin)] at c4;cases c4
   · rw [zdL (b4▸ht) (a3▸hin)] at c5;cases c5
   · rw [zdL (a4▸ht) (b4▸hin)] at c6;cases c6
 · intro i o e ho he hb
   have hi:i<l.length:=by rw [hlen,hn];exact (Array.getElem?_eq_some_iff.1 ho).1
   obtain ⟨o1,f1,h1,_,_,_,_,_,_,h8⟩:=hit i l[i] (List.getElem?_eq_getElem hi)
   rw [Array.getElem?_toList,ho] at h1;cases h1
   exact h8 e he hb
 · intro i hi
   obtain ⟨_,_,_,_,_,_,_,_,h7,_⟩:=hit k x (ze8 hx)
   exact h7 i (zjR hbits i hi)
 · intro j hkj hj
   have hj':j<l.length:=by rw [hlen,hn];exact hj
   obtain ⟨_,_,_,_,_,_,_,_,h7,_⟩:=hit j l[j] (List.getElem?_eq_getElem hj')
   refine h7 k (zli h (j - (k+1)) l[j] ?_)
   rw [List.getElem?_drop,show k+1+(j - (k+1))=j by omega]
   exact List.getElem?_eq_getElem hj'
theorem zkE {S:Nat→Bool} {K:Nat}:∀ {n:Nat},(∀ i,i<n→S i=decide (i<K))→cnt S n=n - K
 | 0,_=>by simp [cnt]
 | n+1,h=>by
  have ih:=zkE (S:=S) (K:=K) (n:=n) (fun i hi=>h i (by omega))
  have h0:=h n (by omega)
  unfold cnt
  by_cases e:n<K
  · rw [h0];simp [e,ih];omega
  · rw [h0];simp [e,ih];omega
theorem zoR {F0 F1:Fr} {M0 M1:Mm} {os:List Oper} {rs:List OpRes} {Z:Ctx→Prop} (T:Trace Z P N ops F0 M0 os rs F1 M1) (m:Nat) (hos:∀ j,j<os.length→ops[m+j]? = os[j]?) (hle:m+os.length≤ops.size) {fts:List (List Nat×List Nat)}
 (hft:∀ (j:Nat) (r:OpRes),rs[j]? = some r→fts[m+j]? = some (r.rd,r.wr.map (·.1))) (hfar:Far ops fts) (hback:Back ops) (neck:∀ i,m+os.length≤i→i<ops.size→∀ j,j<os.length→Anc ops (m+j) i)
 (hdst:∀ o,o∈os→∀ d,o.dst=some d→d<N) {C:Ctx} (hZ:Z C) {g:Nat} {rr:Option Nat} {n:Nat} {Q:Exit→Act→World→Prop}
 (hQ:∀ (listed:Array Bool) (h:Hp) (ρ:Rho) (a:Act) (w:World),listed.size=ops.size→(∀ i,i<ops.size→listed.getD i false=decide (i<m+os.length))→InvH N C h ρ F1 M1 g a w→wpAnyIn (Fw rr) n P .any ops Q (ops.size - (m+os.length)) listed a w) :
 ∀ (fuel:Nat) (listed:Array Bool) (h:Hp) (ρ:Rho) (a:Act) (w:World),listed.size=ops.size→cnt (fun i=>listed.getD i false) ops.size=fuel→zjZ ops (fun i=>listed.getD i false) →
  (∀ i,i<m→listed.getD i false=true)→(∀ i,m+os.length≤i→listed.getD i false=false) →
  InvH N C h ρ (stF F0 (dvs os rs) (fun i=>listed.getD i false) m) (stM M0 (rs.map (·.wr)) (fun i=>listed.getD i false) m) g a w→wpAnyIn (Fw rr) n P .any ops Q fuel listed a w:=by
 have hrs:∀ (i:Nat) (o:Oper),os[i]? = some o→∃ r,rs[i]? = some r:=by
  intro i o ho
  have hi:i<rs.length:=by rw [T.len];exact (List.getElem?_eq_some_iff.1 ho).1
  exact ⟨rs[i],List.getElem?_eq_getElem hi⟩
 have hgd:∀ (listed:Array Bool) (i:Nat),listed.size=ops.size→i<ops.size→listed.getD i true=listed.getD i false:=by
  intro listed i hs hi
  have:i<listed.size:=by omega
  simp [this]
 intro fuel
 induction fuel with
 | zero=>
  intro listed h ρ a w hs hc hcl hlo hhi I
  have hall:=zkD hc
  have hlen:ops.size≤m+os.length:=by
   rcases Nat.lt_or_ge (m+os.length) ops.size with h1|h1
   · have h2:=hall _ h1
     have h3:=hhi _ (Nat.le_refl _)
     rw [h3] at h2;cases h2
   · exact h1
  obtain ⟨e1,e2⟩:=T.all (fun i=>listed.getD i false) m (fun i hi=>hall _ (by omega))
  rw [e1,e2] at I
  have:=hQ listed h ρ a w hs (fun i hi=>by rw [hall i hi];simp;omega) I
  rwa [show ops.size - (m+os.length)=0 by omega] at this
 | succ fuel ih=>
  intro listed h ρ a w hs hc hcl hlo hhi I
  by_cases hall:∀ i,i<os.length→listed.getD (m+i) false=true
  · obtain ⟨e1,e2⟩:=T.all (fun i=>listed.getD i false) m (fun i hi=>hall i hi)
    rw [e1,e2] at I
    have hd:∀ i,i<ops.size→listed.getD i false=decide (i<m+os.length):=by
     intro i hi
     by_cases e:i<m+os.length
     · rw [decide_eq_true e]
       by_cases e3:i<m
       · exact hlo i e3
       · have:=hall (i - m) (by omega)
         rwa [show m+(i - m)=i by omega] at this
     · rw [decide_eq_false e];exact hhi i (by omega)
    have:=hQ listed h ρ a w hs hd I
    rw [zkE hd] at hc
    rwa [hc] at this
  · refine ⟨fun h0=>?_,fun i hi=>?_⟩
    · exfalso
      have key:∀ q i,i<q→i<ops.size→listed.getD i false=true:=by
       intro q
       induction q with
       | zero=>intro i hi;omega
       | succ q ihq=>
        intro i him hi
        cases hl':listed.getD i false with
        | true=>rfl
        | false=>
         exfalso
         have ho:ops[i]? = some ops[i]:=Array.getElem?_eq_getElem hi
         have:i∈Region.ready .any ops listed:=mem_ready.2 ⟨by rw [hgd listed i hs hi];exact hl',_,ho,fun e he hb=>ihq e.on (by have:=hback i _ e ho he hb;omega) (by have:=hback i _ e ho he hb;omega)⟩
         rw [h0] at this;cases this
      exact hall (fun i hi=>key (m+i+1) (m+i) (by omega) (by omega))
    · obtain ⟨h1,o,ho,hdone⟩:=mem_ready.1 hi
      have hin:=(Array.getElem?_eq_some_iff.1 ho).1
      rw [hgd listed i hs hin] at h1
      have anc1:∀ k,Anc ops k i→listed.getD k false=true:=by
       intro k A
       obtain ⟨j,hj⟩:∃ j,j=i:=⟨i,rfl⟩
       rw [← hj] at A
       induction A with
       | edge q1 q2 q3 q4=>subst hj;rw [ho] at q1;cases q1;exact q4▸hdone _ q2 q3
       | trans A1 _ _ ih2=>exact A1.closed hcl (ih2 hj)
      have anc2:∀ k,Anc ops i k→listed.getD k false=false:=by
       intro k A
       cases hk:listed.getD k false with
       | false=>rfl
       | true=>
        have:listed.getD i false=true:=A.closed hcl hk
        rw [h1] at this;cases this
      have him:m≤i:=by
       rcases Nat.lt_or_ge i m with h2|h2
       · rw [hlo i h2] at h1;cases h1
       · exact h2
      have hiu:i<m+os.length:=by
       rcases Nat.lt_or_ge i (m+os.length) with h2|h2
       · exact h2
       · exact absurd (fun j hj=>anc1 _ (neck i h2 hin j hj)) hall
      obtain ⟨p,rfl⟩:∃ p,i=m+p:=⟨i - m,by omega⟩
      have hp:p<os.length:=by omega
      have hop0:os[p]? = some o:=by rw [← hos p hp];exact ho
      obtain ⟨r,hr⟩:=hrs p o hop0
      have hop:=T.at m p o r hop0 hr
      have apartT:∀ (k:Nat) (o':Oper) (r':OpRes),os[k]? = some o'→rs[k]? = some r'→k≠p→(listed.getD (m+k) false≠decide (m+k<m+p)) →
       (∀ t,o'.dst=some t→t ∉ o.looksAt ops)∧(∀ t,t∈r'.wr.map (·.1)→t ∉ r.rd)∧(∀ t,o.dst=some t→o'.dst≠some t)∧(∀ t,t∈r.wr.map (·.1)→t ∉ r'.wr.map (·.1)):=by
       intro k o' r' ho' hr' hne hd
       have hkl:=(List.getElem?_eq_some_iff.1 ho').1
       have ho2:ops[m+k]? = some o':=by rw [hos k hkl];exact ho'
       rcases Nat.lt_or_ge k p with hlt|hge
       · have hk:listed.getD (m+k) false=false:=by
          cases hk:listed.getD (m+k) false with
          | false=>rfl
          | true=>rw [hk] at hd;simp [hlt] at hd
         have hA:¬ Anc ops (m+k) (m+p):=fun A=>by rw [anc1 _ A] at hk;cases hk
         obtain ⟨f1,f2,f3,f4,f5,f6⟩:=hfar (m+k) (m+p) o' o _ _ (by omega) ho2 (hft k r' hr') ho (hft p r hr) hA
         exact ⟨f1,f4,fun t h1 h2=>f3 t h2 h1,fun t h1 h2=>f6 t h2 h1⟩
       · have hgt:p<k:=by omega
         have hk:listed.getD (m+k) false=true:=by
          cases hk:listed.getD (m+k) false with
          | true=>rfl
          | false=>rw [hk] at hd;simp [Nat.not_lt.2 hge] at hd
         have hA:¬ Anc ops (m+p) (m+k):=fun A=>by rw [anc2 _ A] at hk;cases hk
         obtain ⟨f1,f2,f3,f4,f5,f6⟩:=hfar (m+p) (m+k) o o' _ _ (by omega) ho (hft p r hr) ho2 (hft k r' hr') hA
         exact ⟨f2,f5,f3,f6⟩
      have hset:∀ j,j≠m+p→(listed.setIfInBounds (m+p) true).getD j false=listed.getD j false:=fun j hj=>getD_set_ne false (Ne.symm hj)
      have hseti:(listed.setIfInBounds (m+p) true).getD (m+p) false=true:=by
       have:m+p<listed.size:=by omega
       simp [this]
      unfold wpOpIn
      simp only [ho]
      refine hop C hZ h ρ _ _ g a w I (fun t ht=>zeR rfl (fun k d v hk hd hdt=>?_)) (fun t ht=>zem rfl (fun k wr hk hd hin'=>?_)) rr n _ Q (fun x h' ρ' w' I' hv=>?_)
      · obtain ⟨o',r',e1,e2,e3⟩:=zkA hk
        cases e3
        by_cases hki:k=p
        · subst hki;simp [h1] at hd
        · exact (apartT k o' r' e1 e2 hki hd).1 t hdt ht
      · simp only [List.getElem?_map,Option.map_eq_some_iff] at hk
        obtain ⟨r',e2,rfl⟩:=hk
        have hk':k<os.length:=by
         have:=(List.getElem?_eq_some_iff.1 e2).1
         rwa [T.len] at this
        by_cases hki:k=p
        · subst hki;simp [h1] at hd
        · exact (apartT k _ r' (List.getElem?_eq_getElem hk') e2 hki hd).2.1 t hin' ht
      · have hF:stF F0 (dvs os rs) (fun j=>(listed.setIfInBounds (m+p) true).getD j false) m=putO (stF F0 (dvs os rs) (fun j=>listed.getD j false) m) o.dst r.v:=by
         funext t
         refine zlM (i:=p) (zoH hop0 hr) (by simpa using h1) (by simpa using hseti) (fun j hj=>by simpa using hset (m+j) (by omega)) (fun j e u hij hj hs' t' ht'=>?_) t
         obtain ⟨o',r',e1,e2,e3⟩:=zkA hj
         cases e3
         exact (apartT j o' r' e1 e2 (by omega) (by rw [hs'];simp;omega)).2.2.1 t' ht'
        have hM:stM M0 (rs.map (·.wr)) (fun j=>(listed.setIfInBounds (m+p) true).getD j false) m=updL (stM M0 (rs.map (·.wr)) (fun j=>listed.getD j false) m) r.wr:=by
         funext t
         refine zlL (i:=p) (by simp [hr]) (by simpa using h1) (by simpa using hseti) (fun j hj=>by simpa using hset (m+j) (by omega)) (fun j wr' hij hj hs' t' ht'=>?_) t
         simp only [List.getElem?_map,Option.map_eq_some_iff] at hj
         obtain ⟨r',e2,rfl⟩:=hj
         have hj':j<os.length:=by
          have:=(List.getElem?_eq_some_iff.1 e2).1
          rwa [T.len] at this
         exact (apartT j _ r' (List.getElem?_eq_getElem hj') e2 (by omega) (by rw [hs'];simp;omega)).2.2.2 t' ht'
        refine ih (listed.setIfInBounds (m+p) true) h' ρ' _ w' (by simp [hs]) ?_ ?_ ?_ ?_ ?_
        · have:=zoK (S:=fun j=>listed.getD j false) (S':=fun j=>(listed.setIfInBounds (m+p) true).getD j false) h1 hseti hset ops.size hin
          omega
        · intro j o' ho' hj e he hb
          by_cases hji:j=m+p
          · subst hji
            rw [ho] at ho';cases ho'
            by_cases hei:e.on=m+p
            · rw [hei];exact hseti
            · simp only [hset _ hei];exact hdone e he hb
          · simp only [hset _ hji] at hj
            by_cases hei:e.on=m+p
            · rw [hei];exact hseti
            · simp only [hset _ hei];exact hcl j o' ho' hj e he hb
        · intro j hj;rw [hset j (by omega)];exact hlo j hj
        · intro j hj;rw [hset j (by omega)];exact hhi j hj
        · rw [hF,hM]
          exact I'.put (fun d hd=>hdst o (List.mem_of_getElem? hop0) d hd) hv
theorem zpF {listed:Array Bool} (hs:listed.size=ops.size) (hall:∀ i,i<ops.size→listed.getD i false=true):Region.ready .any ops listed=[]:=by
 rcases hr:Region.ready .any ops listed with _|⟨i,t⟩
 · rfl
 · obtain ⟨h1,o,ho,_⟩:=mem_ready.1 (hr▸List.mem_cons_self .. : i∈Region.ready .any ops listed)
   have hi:=(Array.getElem?_eq_some_iff.1 ho).1
   have:=hall i hi
   have hi':i<listed.size:=by omega
   have e:listed.getD i true=listed.getD i false:=by simp [hi']
   rw [e,this] at h1;cases h1
end
section
variable {P:Program} {N:Nat} {Γ:Tys} {L:List (Nat×AV)} {M:List (Nat×Blk)} {g:Nat} {Q:Exit→Act→World→Prop}
variable {w0:World} {h0:Hp} {J:Nat→(Nat→Prop)→World→Prop} {hJ:∀ k,Stab (J k)}
end
end Go.Av
end
/- A region that draws its order and yields once, without a guard. -/
section
set_option linter.all false
namespace Go.Av
open Go.Sp
section
variable {P:Program} {N:Nat} {Γ:Tys} {L:List (Nat×AV)} {M:List (Nat×Blk)} {g:Nat} {Q:Exit→Act→World→Prop}
variable {w0:World} {h0:Hp} {J:Nat→(Nat→Prop)→World→Prop} {hJ:∀ k,Stab (J k)}
theorem W.regionYf (E:Env P Γ) {l:Nat} {items:List (List AV)} (hY:Yld P h0 l J items) {id:Nat} {ops:Array Oper} (own:List Nat) (k:Nat) (rvs1 rvs2:List RV) {A1:Acc} {A2:Bool→Acc} {y:Oper} {post:List Oper} {f:Operand} {args:Array Operand} {ts:Array TypeId} {it itp:List AV} {d:Nat}
 (hk:ops.toList.drop k=y::post) (hr1:runR Γ own ops.toList (ops.toList.take k) rvs1 L M=some A1) (hyo:y.op = .call { callee:=.value f,args:=args,argTypes:=ts }) (hyd:y.dst=some d)
 (hg:y.guard=none) (hf:zfE (evO (fr A1.L) f) = .fn (.yield l) [] []) (hit:zfb (fun x=>zfE (evO (fr A1.L) x)) args.toList=itp) (hgr:UnL h0 itp it)
 (hr2:∀ b,runR Γ own ops.toList post rvs2 ((d,.bool b)::A1.L) A1.M=some (A2 b)) (hd:zjq N ops.toList=true) (hneck:∀ b,znX ops (A1.ft++([],[])::(A2 b).ft) k=true)
 (hcs1:AllP A1.cs) (hrq1:RqOk P A1.rq) (hn:AllP (needs (fr A1.L) true y.op.operands.toList)) (hcs2:∀ b,AllP (A2 b).cs) (hrq2:∀ b,RqOk P (A2 b).rq)
 (hitm:∃ q,g=q+1∧items[q]? = some it)
 (K:∀ b g',(g'=bif b then g+1 else 0)→At N (Ci w0 h0 J hJ) (A2 b).L (A2 b).M g' (Q .normal)) (hz:FzOk own (Ci w0 h0 J hJ):=by exact .inl rfl):W P N none (Ci w0 h0 J hJ) (.region id ops true) L M g Q:=by
 intro h ρ a w I
 refine wpIn_region_any E.mixed ?_
 have hlen:k<ops.toList.length:=by
  rcases Nat.lt_or_ge k ops.toList.length with h|h
  · exact h
  · rw [List.drop_eq_nil_of_le h] at hk;cases hk
 have hsplit:ops.toList=ops.toList.take k++y::post:=by rw [← hk,List.take_append_drop]
 have htk:(ops.toList.take k).length=k:=by rw [List.length_take];omega
 have hsize:ops.size=k+(1+post.length):=by
  have:=congrArg List.length hsplit
  rw [List.length_append,htk,List.length_cons] at this
  simp at this;omega
 obtain ⟨rs,T,hft1⟩:=zc2 (N:=N) E.ty E.depth (ops.toList.take k) rvs1 L M hr1 hcs1.mem hrq1
 have hrl:rs.length=k:=by rw [T.len,htk]
 have hyk:ops[k]? = some y:=by
  rw [← Array.getElem?_toList,hsplit,List.getElem?_append_right (by omega),htk];simp
 have hpost:∀ j,post[j]? = ops[k+1+j]? := fun j=>by
  rw [← Array.getElem?_toList,hsplit,List.getElem?_append_right (by omega),htk,show k+1+j - k=j+1 by omega];simp
 have hmem:∀ o,o∈post→o∈ops.toList:=fun o ho=>by rw [hsplit];simp [ho]
 have hnd:∀ c,y.op ≠ .defer c:=fun c e=>by rw [hyo] at e;cases e
 have hdN:d<N:=zcq hd y (by rw [hsplit];simp) d hyd
 obtain ⟨_,hback,nk1,nk2,_⟩:=ziN (hneck true)
 have hfal:(fun i=>(Array.replicate ops.size false).getD i false)=fun _=>false:=by
  funext i
  by_cases h:i<ops.size <;> simp [h]
 have hcl0:zjZ ops (fun i=>(Array.replicate ops.size false).getD i false):=by
  intro j o _ hj
  exfalso
  by_cases h:j<ops.size <;> simp [h] at hj
 have e1:∀ (l:List (Option Nat×AV)) (G:Fr) (k:Nat),stF G l (fun _=>false) k=G:=by
  intro l
  induction l with
  | nil=>intros;rfl
  | cons x l ih=>intro G k;obtain ⟨e,u⟩:=x;unfold stF;simp [ih]
 have e2:∀ (l:List (List (Nat×Blk))) (G:Mm) (k:Nat),stM G l (fun _=>false) k=G:=by
  intro l
  induction l with
  | nil=>intros;rfl
  | cons x l ih=>intro G k;unfold stM;simp [ih]
 have e3:∀ n,cnt (fun _=>false) n=n:=by
  intro n
  induction n with
  | zero=>rfl
  | succ n ih=>simp [cnt,ih]
 -- behind the yield
 have fin:∀ (b:Bool) (g':Nat),(g'=bif b then g+1 else 0)→∀ (listed:Array Bool) (h:Hp) (ρ:Rho) (a:Act) (w':World) (x:Value),listed.size=ops.size→(∀ i,i<ops.size→listed.getD i false=decide (i<k+1)) →
  InvH N (Ci w0 h0 J hJ) h ρ (fr A1.L) (mm A1.M) g' a w'→Rel h ρ (.bool b) x→wpAnyIn (Fw none) 1 P .any ops Q post.length listed (a.put y.dst x) w':=by
  intro b g' hg2 listed h ρ a w' x hls hl I' hx
  obtain ⟨rs2,T2,hft2⟩:=zc2 (N:=N) E.ty E.depth post rvs2 _ _ (hr2 b) (hcs2 b).mem (hrq2 b)
  have hp:=I'.put (d:=y.dst) (fun t ht=>by rw [hyd] at ht;cases ht;exact hdN) hx
  rw [hyd] at hp ⊢
  obtain ⟨hfar,_,_,_,_⟩:=ziN (hneck b)
  refine zoR (C:=Ci w0 h0 J hJ) (g:=g') T2 (k+1) (fun j _=>(hpost j).symm) (by omega) (fts:=A1.ft++([],[])::(A2 b).ft) (fun j r hr=>?_) hfar hback (fun i hi hi2=>by omega) (fun o ho=>zcq hd o (hmem o ho)) hz (fun listed h ρ a w hs hl I=>?_)
   post.length listed h ρ _ w' hls ?_ ?_ (fun i hi=>by rw [hl i (by omega)];simp [hi]) (fun i hi=>?_) ?_
  · rw [List.getElem?_append_right (by rw [hft1,List.length_map];omega),hft1,List.length_map,hrl,show k+1+j - k=j+1 by omega,List.getElem?_cons_succ,hft2,List.getElem?_map,hr];rfl
  · rw [show ops.size - (k+1+post.length)=0 by omega]
    exact ⟨zpF hs (fun i hi=>by rw [hl i hi];simp;omega),K b g' hg2 h ρ a w I⟩
  · rw [zkE hl];omega
  · intro j o ho hj e he hb
    have hjs:=(Array.getElem?_eq_some_iff.1 ho).1
    simp only [hl j hjs,decide_eq_true_eq] at hj
    have:=hback j o e ho he hb
    simp only [hl e.on (by omega),decide_eq_true_eq];omega
  · by_cases h:i<ops.size
    · rw [hl i h];simp;omega
    · simp [show ¬ i<listed.size by omega]
  · have hpl:∀ (r:List OpRes) (o:List Oper) (G:Fr) (S:Nat→Bool) (m:Nat),(∀ i,m≤i→i<m+o.length→S i=false)→stF G (dvs o r) S m=G:=by
     intro r o
     induction o generalizing r with
     | nil=>intro G S m _;cases r <;> rfl
     | cons x o ih=>
      intro G S m hS
      cases r with
      | nil=>rfl
      | cons y r=>
       simp only [dvs,stF]
       rw [if_neg (by rw [hS m (Nat.le_refl _) (by simp)];simp)]
       exact ih r G S (m+1) (fun i h1 h2=>hS i (by omega) (by simp;omega))
    have hpm:∀ (r:List (List (Nat×Blk))) (G:Mm) (S:Nat→Bool) (m:Nat),(∀ i,m≤i→i<m+r.length→S i=false)→stM G r S m=G:=by
     intro r
     induction r with
     | nil=>intros;rfl
     | cons y r ih=>
      intro G S m hS
      simp only [stM]
      rw [if_neg (by rw [hS m (Nat.le_refl _) (by simp)];simp)]
      exact ih G S (m+1) (fun i h1 h2=>hS i (by omega) (by simp;omega))
    rw [hpl _ _ _ _ _ (fun i h1 h2=>by rw [hl i (by omega)];simp;omega),hpm _ _ _ _ (fun i h1 h2=>by rw [List.length_map,T2.len] at h2;rw [hl i (by omega)];simp;omega)]
    exact hp
 obtain ⟨hfar,_,_,_,_⟩:=ziN (hneck true)
 refine zoR (C:=Ci w0 h0 J hJ) (g:=g) T 0 (fun j hj=>?_) (by omega) (fts:=A1.ft++([],[])::(A2 true).ft) (fun j r hr=>?_) hfar hback (fun i hi hi2 j hj=>?_) (fun o ho=>zcq hd o (List.mem_of_mem_take ho)) hz (fun listed h ρ a w hs hl I=>?_)
  ops.size _ h ρ a _ (by simp) (by rw [hfal,e3]) hcl0 (fun i hi=>by omega) (fun i hi=>by have:=congrFun hfal i;simpa using this) ?_
 · rw [List.getElem?_take,Nat.zero_add,if_pos (by omega),Array.getElem?_toList]
 · have hj:=(List.getElem?_eq_some_iff.1 hr).1
   rw [Nat.zero_add,List.getElem?_append_left (by rw [hft1,List.length_map];omega),hft1,List.getElem?_map,hr];rfl
 · rw [htk] at hi hj
   rw [Nat.zero_add] at hi ⊢
   by_cases e:i=k
   · subst e;exact nk1 j hj
   · exact .trans (nk1 j hj) (nk2 i (by omega) hi2)
 · rw [htk,Nat.zero_add] at hl ⊢
   rw [show ops.size - k=post.length+1 by omega]
   have hgdd:∀ i,i<ops.size→listed.getD i true=listed.getD i false:=fun i hi=>by
    have:i<listed.size:=by omega
    simp [this]
   refine ⟨fun h0=>?_,fun i hi=>?_⟩
   · exfalso
     have:k∈Region.ready .any ops listed:=mem_ready.2 ⟨by rw [hgdd k (by omega),hl k (by omega)];simp,y,hyk,fun e he hb=>by
      have:=hback k y e hyk he hb
      rw [hl e.on (by omega)];simp [this]⟩
     rw [h0] at this;cases this
   · obtain ⟨h1,o,ho,hdone⟩:=mem_ready.1 hi
     have hin:=(Array.getElem?_eq_some_iff.1 ho).1
     rw [hgdd i hin,hl i hin] at h1
     have hik:i=k:=by
      rcases Nat.lt_or_ge k i with h2|h2
      · exfalso
        have hclk:zjZ ops (fun i=>listed.getD i false):=by
         intro j o ho hj e he hb
         have hjs:=(Array.getElem?_eq_some_iff.1 ho).1
         simp only [hl j hjs,decide_eq_true_eq] at hj
         have:=hback j o e ho he hb
         simp only [hl e.on (by omega),decide_eq_true_eq];omega
        have anc1:∀ q,Anc ops q i→listed.getD q false=true:=by
         intro q A
         obtain ⟨j,hj⟩:∃ j,j=i:=⟨i,rfl⟩
         rw [← hj] at A
         induction A with
         | edge q1 q2 q3 q4=>subst hj;rw [ho] at q1;cases q1;exact q4▸hdone _ q2 q3
         | trans A1 _ _ ih2=>exact A1.closed hclk (ih2 hj)
        have:=anc1 k (nk2 i h2 hin)
        rw [hl k (by omega)] at this;simp at this
      · have:¬ i<k:=by simpa using h1
        omega
     subst hik
     have hlk:∀ j,j<ops.size→(listed.setIfInBounds i true).getD j false=decide (j<i+1):=by
      intro j hj
      by_cases e:j=i
      · subst e
        have:j<listed.size:=by omega
        simp [this]
      · rw [getD_set_ne false (Ne.symm e),hl j hj]
        congr 1
        exact propext ⟨fun h=>by omega,fun h=>by omega⟩
     unfold wpOpIn
     simp only [hyk]
     have hgs:Region.wanted y (yielded ops a.tmps)=true:=by unfold Region.wanted;rw [hg]
     rw [hgs,if_pos rfl]
     obtain ⟨q,rfl,hq⟩:=hitm
     have hop:∀ z,z∈y.op.operands→Rel h ρ (zfE (evO (fr A1.L) z)) (a.eval z):=by
      intro z hz
      have h1:=zfU (ops:=ops) (o:=y) I (fun _ _=>rfl) hz
      cases hev:evO (fr A1.L) z <;> rw [hev] at h1 <;> (try exact h1)
      rename_i G v
      have hG:=hn.mem _ (zfJ (W:=true) (by simpa using hz) hev) rfl
      cases h1 with
      | cnd _ _ _ _ ht hf=>exact ht hG
     have hfv:a.eval f = .func (.yield l) #[] #[]:=by
      have h1:=hop f (by rw [hyo];simp [Op.operands,Call.operands])
      rw [hf] at h1
      generalize a.eval f=z at h1
      cases h1 with
      | fn _ _ _ _ vs ws hl hm _ _=>
       have e1:vs=[]:=by simpa using hl
       have e2:ws=[]:=by simpa using hm
       subst e1;subst e2;rfl
     have hargs:RelL h ρ itp (args.toList.map a.eval):=by
      rw [← hit]
      exact zdZ args.toList (fun z hz=>hop z (zdY hyo hz))
     obtain ⟨X,x1,x2,x3⟩:=I.gst
     obtain ⟨fn,tmps,assign,body,hy,hR⟩:=hY q X w it _ x3 hq (hgr.rel hargs)
     refine ⟨fun _ _=>trivial,?_⟩
     have e1:args.map a.eval=(args.toList.map a.eval).toArray:=by apply Array.ext';simp
     rw [Oper.semAt_eq _ _ _ hnd,ziF hyo hfv,e1,hy]
     refine ⟨fun e=>(by cases e),?_⟩
     refine (zkV hR).mono (fun e W' he=>?_)
     obtain ⟨b,rfl,hJ',k1,k2,k3,k4,k5,k6⟩:=he
     refine fin b _ rfl _ h ρ a W' _ (by simp [hs]) hlk ?_ (.bool _ _)
     refine I.zjW x1 x2 k1 k2 k3 k4 k5 k6 ?_
     cases b <;> exact hJ'
 · rw [hfal,e1,e2]
   exact I.drew
theorem W.zpa (E:Env P Γ) {l:Nat} {items:List (List AV)} (hY:Yld P h0 l J items) {id:Nat} {ops:Array Oper} (own:List Nat) (k:Nat) (rvs1 rvs2:List RV) {A1:Acc} {A2:Bool→Acc} {y:Oper} {post:List Oper} {f:Operand} {args:Array Operand} {ts:Array TypeId} {it itp:List AV} {d:Nat}
 (hk:ops.toList.drop k=y::post) (hr1:runR Γ own ops.toList (ops.toList.take k) rvs1 L M=some A1) (hyo:y.op = .call { callee:=.value f,args:=args,argTypes:=ts }) (hyd:y.dst=some d)
 (hg:y.guard=none) (hf:zfE (evO (fr A1.L) f) = .fn (.yield l) [] []) (hit:zfb (fun x=>zfE (evO (fr A1.L) x)) args.toList=itp) (hgr:UnL h0 itp it)
 (hr2:∀ b,runR Γ own ops.toList post rvs2 ((d,.bool b)::A1.L) A1.M=some (A2 b)) (hd:zjq N ops.toList=true)
 (hcs1:AllP A1.cs) (hrq1:RqOk P A1.rq) (hn:AllP (needs (fr A1.L) true y.op.operands.toList)) (hcs2:∀ b,AllP (A2 b).cs) (hrq2:∀ b,RqOk P (A2 b).rq)
 (hitm:∃ q,g=q+1∧items[q]? = some it)
 (K:∀ b g',(g'=bif b then g+1 else 0)→At N (Ci w0 h0 J hJ) (A2 b).L (A2 b).M g' (Q .normal)) (hz:FzOk own (Ci w0 h0 J hJ):=by exact .inl rfl):W P N none (Ci w0 h0 J hJ) (.region id ops false) L M g Q:=by
 intro h ρ a w I
 refine wpIn_region ?_
 have hlen:k<ops.toList.length:=by
  rcases Nat.lt_or_ge k ops.toList.length with h|h
  · exact h
  · rw [List.drop_eq_nil_of_le h] at hk;cases hk
 have hsplit:ops.toList=ops.toList.take k++y::post:=by rw [← hk,List.take_append_drop]
 have htk:(ops.toList.take k).length=k:=by rw [List.length_take];omega
 have hsize:ops.size=k+(1+post.length):=by
  have:=congrArg List.length hsplit
  rw [List.length_append,htk,List.length_cons] at this
  simp at this;omega
 have hrange:List.range ops.size=List.range' 0 (ops.toList.take k).length++(k::List.range' (k+1) post.length):=by
  rw [htk,List.range_eq_range',hsize,Nat.add_comm 1,← List.range'_append_1,Nat.zero_add,List.range'_succ]
 rw [hrange]
 obtain ⟨rs,T,_⟩:=zc2 (N:=N) E.ty E.depth (ops.toList.take k) rvs1 L M hr1 hcs1.mem hrq1
 have hyk:ops[k]? = some y:=by
  rw [← Array.getElem?_toList,hsplit,List.getElem?_append_right (by omega),htk];simp
 have hpost:∀ j,post[j]? = ops[k+1+j]? := fun j=>by
  rw [← Array.getElem?_toList,hsplit,List.getElem?_append_right (by omega),htk,show k+1+j - k=j+1 by omega];simp
 have hmem:∀ o,o∈post→o∈ops.toList:=fun o ho=>by rw [hsplit];simp [ho]
 have hnd:∀ c,y.op ≠ .defer c:=fun c e=>by rw [hyo] at e;cases e
 have hdN:d<N:=zcq hd y (by rw [hsplit];simp) d hyd
 refine T.lexK hz _ (fun h ρ a w I=>?_) 0 h ρ a w I (fun o ho=>zcq hd o (List.mem_of_mem_take ho)) (fun j=>?_)
 rotate_left
 · rw [List.getElem?_take,← Array.getElem?_toList,Nat.zero_add]
   by_cases hj:j<k
   · left;rw [if_pos hj]
   · right;omega
 rw [wpOpsIn_cons]
 unfold wpOpIn
 simp only [hyk]
 have hgs:Region.wanted y (yielded ops a.tmps)=true:=by unfold Region.wanted;rw [hg]
 rw [hgs,if_pos rfl]
 have fin:∀ (b:Bool) (g':Nat),(g'=bif b then g+1 else 0)→∀ (h:Hp) (ρ:Rho) (w':World) (x:Value),InvH N (Ci w0 h0 J hJ) h ρ (fr A1.L) (mm A1.M) g' a w'→Rel h ρ (.bool b) x →
  wpOpsIn (Fw none) 1 P ops Q (List.range' (k+1) post.length) (a.put y.dst x) w':=by
  intro b g' hg2 h ρ w' x I' hx
  obtain ⟨rs2,T2,_⟩:=zc2 (N:=N) E.ty E.depth post rvs2 _ _ (hr2 b) (hcs2 b).mem (hrq2 b)
  have hp:=I'.put (d:=y.dst) (fun t ht=>by rw [hyd] at ht;cases ht;exact hdN) hx
  rw [hyd] at hp ⊢
  exact T2.lex hz (K b g' hg2) (k+1) h ρ _ w' hp (fun o ho=>zcq hd o (hmem o ho)) (fun j=>.inl (hpost j))
 obtain ⟨q,rfl,hq⟩:=hitm
 have hop:∀ z,z∈y.op.operands→Rel h ρ (zfE (evO (fr A1.L) z)) (a.eval z):=by
  intro z hz
  have h1:=zfU (ops:=ops) (o:=y) I (fun _ _=>rfl) hz
  cases hev:evO (fr A1.L) z <;> rw [hev] at h1 <;> (try exact h1)
  rename_i G v
  have hG:=hn.mem _ (zfJ (W:=true) (by simpa using hz) hev) rfl
  cases h1 with
  | cnd _ _ _ _ ht hf=>exact ht hG
 have hfv:a.eval f = .func (.yield l) #[] #[]:=by
  have h1:=hop f (by rw [hyo];simp [Op.operands,Call.operands])
  rw [hf] at h1
  generalize a.eval f=z at h1
  cases h1 with
  | fn _ _ _ _ vs ws hl hm _ _=>
   have e1:vs=[]:=by simpa using hl
   have e2:ws=[]:=by simpa using hm
   subst e1;subst e2;rfl
 have hargs:RelL h ρ itp (args.toList.map a.eval):=by
  rw [← hit]
  exact zdZ args.toList (fun z hz=>hop z (zdY hyo hz))
 obtain ⟨X,x1,x2,x3⟩:=I.gst
 obtain ⟨fn,tmps,assign,body,hy,hR⟩:=hY q X w it _ x3 hq (hgr.rel hargs)
 refine ⟨fun _ _=>trivial,?_⟩
 have e1:args.map a.eval=(args.toList.map a.eval).toArray:=by apply Array.ext';simp
 rw [Oper.semAt_eq _ _ _ hnd,ziF hyo hfv,e1,hy]
 refine ⟨fun e=>(by cases e),?_⟩
 refine (zkV hR).mono (fun e W' he=>?_)
 obtain ⟨b,rfl,hJ',k1,k2,k3,k4,k5,k6⟩:=he
 refine fin b _ rfl h ρ W' _ ?_ (.bool _ _)
 refine I.zjW x1 x2 k1 k2 k3 k4 k5 k6 ?_
 cases b <;> exact hJ'
theorem Iter.zph {f : FuncId} {fn : Func} {c : Code} {caps : List AV} {items : List (List AV)} (hf : P.funcs[f]? = some fn) (hn : (fn.name == "runtime.NumGoroutine") = false) (hb : fn.body = some c) (hN : fn.ntmps = N) (hx : Nat.ble (caps.length + 1) N = true)
 (H:∀ w0 h0 l J hJ,(∀ b o,h0 b=some o→w0.heap[b]? = some o)→Yld P h0 l J items→W P N none (Ci w0 h0 J hJ) c (argL 0 (.fn (.yield l) [] []::caps.map (.pin h0))) [] 1 (zpH P fn J items.length)):Iter P f caps items:=by
 refine ⟨enters_of hf hn hb,fun h w vs hR hp l J hJ hY h1=>?_⟩
 refine zcV (n:=1) (callsIn_of_wp_marks hf hb trivial ?_)
 refine H w h l J hJ hp hY h ρ0 _ w ?_
 have hR1:RelL h ρ0 (caps.map (.pin h)) vs:=⟨by rw [hR.1,List.length_map],fun i c v h1 h2=>by
  rw [List.getElem?_map] at h1
  cases hc:caps[i]? with
  | none=>rw [hc] at h1;cases h1
  | some c0=>rw [hc] at h1;cases h1;exact .pin _ _ _ _ (Le.refl h) (hR.2 i c0 v hc h2)⟩
 have hR':RelL h ρ0 (.fn (.yield l) [] []::caps.map (.pin h)) (Value.func (.yield l) #[] #[]::vs):=RelL.cons (.fn _ _ _ _ [] [] rfl rfl (fun i c v hc=>by simp at hc) (fun i c v hc=>by simp at hc)) hR1
 have hlen:(Value.func (.yield l) #[] #[]::vs).length≤N:=by rw [hR'.1];simpa using Nat.le_of_ble_eq_true hx
 generalize Value.func (.yield l) #[] #[]::vs=us at hR' hlen
 refine ⟨fun t=>?_,⟨rfl,fun i c v h1=>by simp [Ci] at h1⟩,?_,hp,fun id x hx=>(by cases hx),fun _ _=>rfl,fun id li b h1=>(by cases h1),fun id id' li li' b h1=>(by cases h1),rfl,rfl,rfl,Nat.le_refl _,fun _ _ _=>rfl,fun b o hb=>hb,fun b o hb _=>hb,
  ⟨fun _=>False,fun b ⟨id,li,q,_⟩=>(by cases q),fun b o hb=>.inl hb,h1⟩,⟨[],rfl,List.nodup_nil,fun D hD=>(by cases hD)⟩⟩
 · rcases zho (h:=h) (ρ:=ρ0) 0 hR' t with e|⟨i,u,e1,e2,e3⟩
   · rw [e];exact .any _ _
   · have e0:t=i:=by omega
     subst e0
     have hi:t<us.length:=(List.getElem?_eq_some_iff.1 e2).1
     have:(us.toArray++Array.replicate (fn.ntmps - us.toArray.size) undef).getD t undef=u:=by
      have e4:us[t]=u:=by have:=List.getElem?_eq_getElem hi;rw [this] at e2;exact Option.some.inj e2
      simp [Array.getElem?_append,hi,e4]
     rw [this]
     exact e3
 · simp [hN] at hlen ⊢;omega
end
end Go.Av
end
