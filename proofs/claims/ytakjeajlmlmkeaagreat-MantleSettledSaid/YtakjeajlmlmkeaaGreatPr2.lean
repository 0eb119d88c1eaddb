/- Texts of the framework, or of the plain law, one behind another. -/
import Derived.Test.YtakjeajlmlmkeaaGreatPr1
/- Plain laws, mantle: Settle and CheckSettle; MantleSettled. No program in sight. -/
section
set_option linter.all false
namespace Go.Sp
open Go.Av
set_option maxRecDepth 100000
theorem bs_int {P:List Int} (hP:P.Pairwise (· < ·)) (hl:P.length≤1000) {fuel:Nat} (hf:P.length<fuel) {q:Nat} (hq:q<P.length):zbl fuel P (P.getD q default)=some ((q:Int),true):=by
 have hc:∀ a b:Int,cmp_Less_int a b=decide (a<b):=fun a b=>by simp [-List.getD_eq_getElem?_getD,cmp_Less_int,cmp_isNaN_int]
 unfold zbl
 refine Wp.eq (wp_loop (fun s=>∃ lo hi:Nat,s=((lo:Int),(hi:Int))∧lo≤q∧q≤hi∧hi≤P.length) (fun s=>(s.2 - s.1).toNat) (by simp only;omega) ⟨0,P.length,rfl,by omega,by omega,by omega⟩ ?_)
 rintro _ K ⟨lo,hi,rfl,a1,a2,a3⟩ hK
 simp only at hK ⊢
 refine zbt (fun hlt=>?_) (fun hge=>?_)
 · have e2:Int.fdiv ((lo:Int)+hi) (2 ^ (1:Int).toNat)=(((lo+hi) / 2:Nat):Int):=by
    rw [show (1:Int).toNat=1 from rfl,zqh (by omega),show ((lo:Int)+hi).toNat=lo+hi by omega,Nat.shiftRight_eq_div_pow]
   rw [e2]
   generalize hm:(lo+hi) / 2=m
   refine zag (by omega) (zan (by unfold inU;omega) (zag (by omega) (zan (by omega) ?_)))
   rw [Int.toNat_natCast,hc]
   refine zbt (fun hc=>zag (by omega) (hK _ ⟨m+1,hi,by simp [-List.getD_eq_getElem?_getD],?_,a2,a3⟩ (by simp only;omega))) (fun hc=>hK _ ⟨lo,m,rfl,a1,?_,by omega⟩ (by simp only;omega))
   · rcases Nat.lt_trichotomy m q with h|h|h
     · omega
     · subst h;omega
     · have:=zkJ hP h (by omega);omega
   · rcases Nat.lt_or_ge m q with h|h
     · have:=zkJ hP h hq;omega
     · exact h
 · have elo:lo=q:=by omega
   subst elo
   refine zan (fun _=>by omega) (zan (fun _=>by omega) (zau ?_))
   rw [Int.toNat_natCast]
   have e1:decide ((lo:Int)<(P.length:Int))=true:=by rw [decide_eq_true_eq];omega
   rw [e1]
   simp [-List.getD_eq_getElem?_getD]
theorem zqy {w:Wear} (V:WearOk w) (known:Int) (m:Nat):(allS w known m).length≤100:=by
 have h1:=zfv (w:=w) (known:=known) (l:=w.Looks) (m:=m) w.Looks.length
 have h2:=V.nl
 have h3:(allS w known m).length≤w.Looks.length:=h1
 omega
theorem zkk {w:Wear} (V:WearOk w) {known:Int} {m:Nat}:∀ s∈allS w known m,0≤s.night:=fun s hs=>by
 obtain ⟨l,hl,_,_,e⟩:=zmp.1 hs
 rw [e];exact (zjm V).2 l hl
theorem zq2 {w:Wear} (V:WearOk w) {P:List Int} {night known:Int} (hP:LotOk w P night known) (hs:zcj w known (allS w known)) (show_:Bool):∃ k,LotC w P night known (allS w known) show_ k:=by
 obtain ⟨k,hk⟩:=cut_ex V (S:=allS w known) (known:=known) (fun m _=>zkk V) hP.nOk.1 show_
 exact ⟨k,V,hP,fun m _=>zkk V,fun m _=>zqy V known m,hs,hk⟩
section
variable {w:Wear} {P:List Int} {night known:Int} {S:Nat→List mantle_sight} {show_:Bool} {k:Nat→Int}
theorem zkM (hP:LotOk w P night known) {q r:Int} (hq:q∈dbt w P night known S) (hr:r∈dbt w P night known S) (e:P.getD q.toNat default=P.getD r.toNat default):q=r:=by
 obtain ⟨a,rfl,ha⟩:=zhh hq
 obtain ⟨b,rfl,hb⟩:=zhh hr
 rw [Int.toNat_natCast,Int.toNat_natCast] at e
 have hs:=zqz hP.ris
 rcases Nat.lt_trichotomy a b with h|h|h
 · have:=zkJ hs h hb;omega
 · rw [h]
 · have:=zkJ hs h ha;omega
theorem LotC.same (h:LotC w P night known S show_ k) {T T':List Int} (hT:∀ i∈T,i∈Go.Sp.dbt w P night known S) (hT':∀ i∈T',i∈Go.Sp.dbt w P night known S) (hs:∀ i,i∈T↔i∈T'):dcd w P night known S show_ T=dcd w P night known S show_ T':=
 Nat.le_antisymm (h.mono hT hT' (fun i hi=>(hs i).1 hi)) (h.mono hT' hT (fun i hi=>(hs i).2 hi))
def zrm (w:Wear) (P:List Int) (night known:Int) (S:Nat→List mantle_sight) (show_:Bool) (many:Int) (r:List Int×Int):Prop:=
 (r.2=0∧r.1.Pairwise (· < ·)∧∃ T,Some w P night known S (fun _=>True) T∧T.length=r.1.length∧(∀ x,x∈r.1↔∃ q∈T,x=P.getD q.toNat default)∧need w P night known S show_ many≤(dcd w P night known S show_ T:Int)∧∀ T',Some w P night known S (fun _=>True) T'→need w P night known S show_ many≤(dcd w P night known S show_ T':Int)→T.length≤T'.length) ∨
 (r.2=3∧r.1=[]∧∀ T,Some w P night known S (fun _=>True) T→¬ need w P night known S show_ many≤(dcd w P night known S show_ T:Int))
theorem zom (h:LotC w P night known (allS w known) show_ k) {fuel:Nat} (hf:1000≤fuel) {many:Int} (hm:0≤many∧many≤20) {post:List Int×Int→Option Unit} (hp:∀ r,zrm w P night known (allS w known) show_ many r→Wp (post r) (fun _=>True)):Wp (zct fuel w P night known many show_ post) (fun _=>True):=by
 have hl20:=h.ok.len
 unfold zct
 refine wp_bind (zg3 h.V hf h.ok hm h.sound) (fun y hy=>?_)
 obtain ⟨h1,h2⟩:=hy
 rw [h1]
 refine zaP (by simp [-List.getD_eq_getElem?_getD]) (h.fewest h2.toS hf many (fun r hr=>?_))
 obtain ⟨T,b⟩:=r
 rcases hr with ⟨e,hT,hn,hmin⟩|⟨e,hno⟩
 · simp only at e hT hn hmin ⊢
   subst e
   have hTl:=hT.zmB h.ok
   refine zaP rfl (zbj (fun i s=>s=(T.take i).map (fun q=>P.getD q.toNat default)) rfl (fun i s K hi hI hK=>?_) (fun s hs=>?_))
   · subst hI
     obtain ⟨q,eq,hq⟩:=zhh (hT.mem _ (zbq hi))
     rw [eq,Int.toNat_natCast]
     refine zan (by omega) (za5 (by simp [-List.getD_eq_getElem?_getD];omega) (hK _ ?_))
     rw [zb3 hi,List.map_append,eq];rfl
   · rw [List.take_length] at hs
     have hsl:s.length=T.length:=by rw [hs,List.length_map]
     refine zax (zd5 (by omega) _:zco s=_) (zan (zej _) (hp _ (.inl ⟨rfl,?_,T,hT,by rw [zej,hsl],fun x=>?_,hn,hmin⟩)))
     · have hnd:(isort s).Nodup:=(zfj s).nodup_iff.2 (by
        rw [hs]
        exact zjg hT.nd (fun a ha c hc e=>zkM h.ok (hT.mem a ha) (hT.mem c hc) e))
       exact List.Pairwise.imp (fun {a b} (h:a≤b∧a≠b)=>(by omega:a<b)) (List.Pairwise.and (zga s) hnd)
     · rw [(zfj s).mem_iff,hs,List.mem_map]
       exact ⟨fun ⟨q,hq,e⟩=>⟨q,hq,e.symm⟩,fun ⟨q,hq,e⟩=>⟨q,hq,e.symm⟩⟩
 · simp only at e hno ⊢
   subst e
   exact zcN rfl (hp _ (.inr ⟨rfl,rfl,hno⟩))
theorem zg1 (h:LotC w P night known (allS w known) show_ k) {fuel:Nat} (hf:1000≤fuel) {many:Int} (hm:0≤many∧many≤20) {L:List Int} (hL:L.Pairwise (· < ·)) (hD:∀ x∈L,∃ q∈Go.Sp.dbt w P night known (allS w known),x=P.getD q.toNat default) :
 Wp (zbR fuel w P night known many show_ L) (fun r=>∃ T,Some w P night known (allS w known) (fun _=>True) T∧T.length=L.length∧(∀ q,q∈T↔q∈Go.Sp.dbt w P night known (allS w known)∧P.getD q.toNat default∈L)∧(need w P night known (allS w known) show_ many≤(dcd w P night known (allS w known) show_ T:Int)→r=0)∧(¬ need w P night known (allS w known) show_ many≤(dcd w P night known (allS w known) show_ T:Int)→r=63)):=by
 have hl20:=h.ok.len
 unfold zbR
 refine wp_bind (zg3 h.V hf h.ok hm h.sound) (fun y hy=>?_)
 obtain ⟨h1,h2⟩:=hy
 rw [h1]
 refine zaP (by simp [-List.getD_eq_getElem?_getD]) (zax (zhg h.V h.ok h2.toS) ?_)
 have hLl:L.length≤20:=by
  have hLn:L.Nodup:=hL.imp (fun h=>Int.ne_of_lt h)
  have:L.length≤P.length:=zeU hLn (fun x hx=>by
   obtain ⟨q,hq,e⟩:=hD x hx
   obtain ⟨a,rfl,ha⟩:=zhh hq
   rw [e,Int.toNat_natCast]
   exact zbq ha)
  omega
 refine zbj (fun i s=>s.length=i∧(∀ q∈s,q∈Go.Sp.dbt w P night known (allS w known))∧s.map (fun q=>P.getD q.toNat default)=L.take i) ⟨rfl,fun q hq=>(by cases hq),rfl⟩ (fun i s K hi hI hK=>?_) (fun s hs=>?_)
 · obtain ⟨i1,i2,i3⟩:=hI
   obtain ⟨q,hq,e⟩:=hD _ (zbq hi)
   obtain ⟨a,rfl,ha⟩:=zhh hq
   rw [Int.toNat_natCast] at e
   rw [e]
   have hrise:(decide (0<(i:Int)) && decide (P.getD a default≤L.getD ((i:Int) - 1).toNat default))=false:=by
    rw [Bool.and_eq_false_iff,decide_eq_false_iff_not,decide_eq_false_iff_not,← e]
    by_cases h0:0<i
    · have:((i:Int) - 1).toNat=i - 1:=by omega
      rw [this]
      have:=zkJ hL (show i - 1<i by omega) hi
      exact .inr (by omega)
    · exact .inl (by omega)
   refine zax (bs_int (zqz h.ok.ris) (by omega) (by omega) ha) (zan (fun _=>by unfold inI;omega) (zan (fun hg=>by simp [-List.getD_eq_getElem?_getD] at hg;omega) ?_))
   simp only
   rw [hrise]
   obtain ⟨c,c1,c2⟩:=zlJ (Go.Sp.dbt w P night known (allS w known)) (a:Int)
   refine zln rfl c1 ?_
   rw [c2.2 hq]
   refine zaP rfl (za5 (by simp [-List.getD_eq_getElem?_getD];omega) (hK _ ⟨by simp [-List.getD_eq_getElem?_getD,i1],fun r hr=>?_,?_⟩))
   · rcases List.mem_append.1 hr with hr|hr
     · exact i2 r hr
     · rw [List.mem_singleton] at hr;rw [hr];exact hq
   · rw [List.map_append,i3,zb3 hi,e]
     simp only [List.map_cons,List.map_nil,Int.toNat_natCast]
 · obtain ⟨s1,s2,s3⟩:=hs
   rw [List.take_length] at s3
   have hnd:s.Nodup:=by
    have hLn:L.Nodup:=hL.imp (fun h=>Int.ne_of_lt h)
    rw [← s3] at hLn
    exact List.Pairwise.imp (fun {a b} (hab:P.getD a.toNat default≠P.getD b.toNat default) e=>hab (by rw [e])) (List.pairwise_map.1 hLn)
   have hsome:Some w P night known (allS w known) (fun _=>True) s:=⟨s2,hnd,fun _ _=>trivial⟩
   have hset:=h.settles s2 (by omega) h2.toS many
   have hmem:∀ q,q∈s↔q∈Go.Sp.dbt w P night known (allS w known)∧P.getD q.toNat default∈L:=fun q=>by
    constructor
    · intro hq
      exact ⟨s2 q hq,by rw [← s3];exact List.mem_map.2 ⟨q,hq,rfl⟩⟩
    · rintro ⟨a1,a2⟩
      rw [← s3] at a2
      obtain ⟨r,r1,r2⟩:=List.mem_map.1 a2
      rw [← zkM h.ok (s2 r r1) a1 r2];exact r1
   refine zax hset ?_
   by_cases hc:need w P night known (allS w known) show_ many≤(dcd w P night known (allS w known) show_ s:Int)
   · rw [decide_eq_true hc]
     exact zaP rfl (zau ⟨s,hsome,s1,hmem,fun _=>rfl,fun k=>absurd hc k⟩)
   · rw [decide_eq_false hc]
     exact zcN rfl (zau ⟨s,hsome,s1,hmem,fun k=>absurd k hc,fun _=>rfl⟩)
noncomputable def nLo (w:Wear) (P:List Int) (night known:Int) (S:Nat→List mantle_sight):Int:=zaL (fun i=>decide (stI w P night known S i=1)) (fun _=>1) P.length
noncomputable def nHi (w:Wear) (P:List Int) (night known:Int) (S:Nat→List mantle_sight):Int:=zaL (fun i=>!decide (stI w P night known S i=0)) (fun _=>1) P.length
theorem zrf:((dbt w P night known S).length:Int)=zaL (fun i=>decide (stI w P night known S i=2)) (fun _=>1) P.length:=by
 have go:∀ n,((dbtN w P night known S n).length:Int)=zaL (fun i=>decide (stI w P night known S i=2)) (fun _=>1) n:=by
  intro n
  induction n with
  | zero=>rfl
  | succ n ih=>
   rw [zhK]
   unfold zaL
   rw [← ih]
   by_cases h1:stI w P night known S n=2
   · rw [if_pos h1,if_pos (decide_eq_true h1),List.length_append];rfl
   · rw [if_neg h1,if_neg (by rw [decide_eq_true_eq];exact h1),Int.add_zero]
 exact go P.length
theorem zpM (i:Nat):stI w P night known S i=0∨stI w P night known S i=1∨stI w P night known S i=2:=by
 rcases zeS (w:=w) (known:=known) (S:=S) (m:=mI w P night known i) (night:=night) with ⟨s,_⟩|⟨s,_⟩|⟨s,_⟩
 · exact .inl s
 · exact .inr (.inl s)
 · exact .inr (.inr s)
theorem zqD:nHi w P night known S=nLo w P night known S+((dbt w P night known S).length:Int):=by
 rw [zrf]
 unfold nHi nLo
 refine zdW (fun i hi=>?_) (fun i hi c=>?_)
 · rcases zpM (w:=w) (P:=P) (night:=night) (known:=known) (S:=S) i with h|h|h <;> rw [h] <;> rfl
 · have c1:=of_decide_eq_true c.1
   rw [c1] at c;simp [-List.getD_eq_getElem?_getD] at c
theorem zoP (V:WearOk w) {fuel:Nat} (hf:1000≤fuel) (hP:LotOk w P night known) (hs:zcj w known (allS w known)) {many:Int} (hm:0≤many∧many≤20):zei fuel w P night known many=some (zaG ⟨nLo w P night known (allS w known),nHi w P night known (allS w known)⟩ many,0):=by
 unfold zei
 refine Wp.eq (wp_bind (zg3 V hf hP hm hs) (fun y hy=>?_))
 obtain ⟨h1,h2⟩:=hy
 rw [h1]
 exact zaP (by simp [-List.getD_eq_getElem?_getD]) (zax (zjf V hP h2.toS) (zau rfl))
theorem LotC.zkj (h:LotC w P night known S show_ k) (many:Int):(∃ T,Some w P night known S (fun _=>True) T∧need w P night known S show_ many≤(dcd w P night known S show_ T:Int))↔need w P night known S show_ many≤((Go.Sp.dbt w P night known S).length:Int):=by
 constructor
 · rintro ⟨T,_,hn⟩
   have:dcd w P night known S show_ T≤(Go.Sp.dbt w P night known S).length:=List.length_filter_le _ _
   omega
 · intro hn
   exact ⟨_,⟨fun i hi=>hi,zik,fun _ _=>trivial⟩,by rw [h.all];exact hn⟩
theorem zlH {many:Int}:need w P night known S true many=many+1 - nLo w P night known S:=by unfold need nLo;exact if_pos rfl
theorem zni {many:Int}:need w P night known S false many=nHi w P night known S - many:=by unfold need nHi;exact if_neg (by decide)
end
theorem znI {f:(Bool→Option Unit)→Option Unit} (h:Wp (f isTrue) (fun _=>True)):zhZ f=some true:=by
 obtain ⟨u,e,_⟩:=h
 unfold zhZ
 rw [e]
theorem zoa {w:Wear} {P:List Int} {night known many:Int} {S:Nat→List mantle_sight} {show_:Bool} {k:Nat→Int} (h:LotC w P night known S show_ k) (hc:((show_ && decide (zaG ⟨nLo w P night known S,nHi w P night known S⟩ many=0)) || (!show_ && decide (zaG ⟨nLo w P night known S,nHi w P night known S⟩ many=1)))=true):¬ ∃ T,Some w P night known S (fun _=>True) T∧need w P night known S show_ many≤(dcd w P night known S show_ T:Int):=by
 rw [h.zkj]
 have e:=zqD (w:=w) (P:=P) (night:=night) (known:=known) (S:=S)
 cases show_ with
 | true=>
  simp only [Bool.true_and,Bool.not_true,Bool.false_and,Bool.or_false,decide_eq_true_eq,zlc] at hc
  rw [zlH];omega
 | false=>
  simp only [Bool.true_and,Bool.not_false,Bool.false_and,Bool.false_or,decide_eq_true_eq,zlb] at hc
  rw [zni];omega
theorem zn9 {w:Wear} {P:List Int} {night known many:Int} {S:Nat→List mantle_sight} {show_:Bool} {k:Nat→Int} (h:LotC w P night known S show_ k) (hc:((show_ && decide (zaG ⟨nLo w P night known S,nHi w P night known S⟩ many=0)) || (!show_ && decide (zaG ⟨nLo w P night known S,nHi w P night known S⟩ many=1)))=false):(∃ T,Some w P night known S (fun _=>True) T∧need w P night known S show_ many≤(dcd w P night known S show_ T:Int))∧(zaG ⟨nLo w P night known S,nHi w P night known S⟩ many≠2↔need w P night known S show_ many≤0):=by
 rw [h.zkj]
 have e:=zqD (w:=w) (P:=P) (night:=night) (known:=known) (S:=S)
 have c2:zaG ⟨nLo w P night known S,nHi w P night known S⟩ many≠2↔zaG ⟨nLo w P night known S,nHi w P night known S⟩ many=1∨zaG ⟨nLo w P night known S,nHi w P night known S⟩ many=0:=by
  unfold zaG
  generalize decide (many<_)=b1
  generalize decide (_≤many)=b2
  cases b1 <;> cases b2 <;> decide
 rw [c2,zlc,zlb]
 cases show_ with
 | true=>
  simp only [Bool.true_and,Bool.not_true,Bool.false_and,Bool.or_false,decide_eq_false_iff_not,zlc] at hc
  rw [zlH]
  simp only
  constructor
  · omega
  · constructor
    · intro h1;omega
    · intro h1;exact .inl (by omega)
 | false=>
  simp only [Bool.true_and,Bool.not_false,Bool.false_and,Bool.false_or,decide_eq_false_iff_not,zlb] at hc
  rw [zni]
  simp only
  constructor
  · omega
  · constructor
    · intro h1;omega
    · intro h1;exact .inr ⟨by omega,by omega⟩
theorem zhX (r:gasolierref06_Raw) (q:List Int) (n:Arr4 Int):zbr 1000 r q n=some true:=by
 refine znI ?_
 unfold zba
 refine zax zon (wp_bind (zdG (by omega)) (fun night hn=>wp_bind (zdG (by omega)) (fun known hk=>wp_bind (zdG (by omega)) (fun many hmany=>wp_bind (zq1 (by omega) r q) (fun z hz=>?_)))))
 obtain ⟨w0,t⟩:=z
 simp only at hz ⊢
 refine zax (zpU hz.ok hz.tr (by omega) known) ?_
 have V:=zot hz.ok known t
 have hT:TrueT (ziv w0 known t) t:=zpK hz.tr _
 have hR:=zlz w0 known t
 generalize ziv w0 known t=w at V hT hR ⊢
 have hs:zcj w known (allS w known):=zls V hT hR
 have hkn:zaU known:=⟨by omega,by omega⟩
 have hni:zaU night:=⟨by omega,by omega⟩
 refine zax (zpT V (by omega) night known) ?_
 refine zcn (fun _=>⟨(),rfl,trivial⟩) (fun h0=>?_)
 have h0':¬ (((lot5 w night known).length:Int)=0):=by simpa [-List.getD_eq_getElem?_getD] using h0
 have hP:=zq3 (w:=w) (night:=night) (known:=known) (by omega) hni hkn
 generalize lot5 w night known=P at hP ⊢
 have hPl:=hP.len
 refine zax (zoP V (by omega) hP hs (by omega)) (zaP (by simp [-List.getD_eq_getElem?_getD]) ?_)
 simp only
 refine zkv (n:=2) (by omega) (fun _=>True) (fun i K hi _ hK=>?_) (fun _ K=>zaP (by simp [-List.getD_eq_getElem?_getD]) ⟨(),rfl,trivial⟩)
 refine zcN (by simp [-List.getD_eq_getElem?_getD];omega) (zfr (fun _=>True) (fun K2 hK2=>?_) (fun _ _=>zag (by omega) (hK trivial)))
 generalize decide ((i:Int)=1)=show_
 obtain ⟨kk,hC⟩:=zq2 V hP hs show_
 refine zom hC (by omega) (by omega) (fun y hy=>?_)
 refine zcn (fun hc=>?_) (fun hc=>?_)
 · have hno:=zoa hC hc
   rcases hy with ⟨_,_,T,hT,_,_,hn,_⟩|⟨e,_,_⟩
   · exact absurd ⟨T,hT,hn⟩ hno
   · rw [e];exact zaP (by simp [-List.getD_eq_getElem?_getD]) (hK2 () trivial)
 · obtain ⟨⟨T0,hT0,hn0⟩,hcl⟩:=zn9 hC hc
   rcases hy with ⟨e,hrise,T,hT,hTl,hTm,hn,hmin⟩|⟨_,_,hno⟩
   · obtain ⟨l,e2⟩:=y
     simp only at e hrise hTl hTm ⊢
     subst e
     have hDl:∀ x∈l,∃ q∈dbt w P night known (allS w known),x=P.getD q.toNat default:=fun x hx=>by
      obtain ⟨q,hq,e⟩:=(hTm x).1 hx
      exact ⟨q,hT.mem q hq,e⟩
     have hT20:=hT.zmB hP
     refine zjM (Q:=fun z=>z=0) (fun _=>?_) (fun z hz=>?_)
     · obtain ⟨v,v1,T',t1,t2,t3,t4,t5⟩:=zg1 hC (fuel:=1000) (by omega) (many:=many) (by omega) hrise hDl
       refine ⟨v,v1,t4 ?_⟩
       rw [hC.same t1.mem hT.mem (fun q=>?_)]
       · exact hn
       · rw [t3,hTm]
         constructor
         · rintro ⟨a1,q',a2,a3⟩
           rw [zkM hP a1 (hT.mem q' a2) a3];exact a2
         · intro a1
           exact ⟨hT.mem q a1,q,a1,rfl⟩
     have hz0:=hz rfl
     subst hz0
     have hlen0:((l.length:Int)=0)↔zaG ⟨nLo w P night known (allS w known),nHi w P night known (allS w known)⟩ many≠2:=by
      rw [hcl]
      constructor
      · intro h1
        have:T=[]:=List.length_eq_zero_iff.1 (by omega)
        rw [this,hC.nil] at hn
        exact hn
      · intro h1
        have:=hmin [] Some.nil (by rw [hC.nil];exact h1)
        simp only [List.length_nil] at this
        omega
     refine zaP ?_ ?_
     · have:(decide ((l.length:Int)=0) == !decide (zaG ⟨nLo w P night known (allS w known),nHi w P night known (allS w known)⟩ many=2))=true:=by
        rw [beq_iff_eq,Bool.eq_iff_iff,decide_eq_true_eq,hlen0,Bool.not_eq_true',decide_eq_false_iff_not]
       simp only [decide_true,Bool.not_true,Bool.or_self,Bool.false_or]
       rw [this];rfl
     refine ziZ P.length (by omega) (fun i s=>s.Pairwise (· < ·)∧s.length≤i∧∀ x∈s,∃ j:Nat,j<i∧(j:Int)∈dbt w P night known (allS w known)∧x=P.getD j default) ⟨List.Pairwise.nil,Nat.le_refl _,fun x hx=>(by cases hx)⟩ (fun i s K3 hi3 hI hK3=>?_)
     obtain ⟨i1,i2,i3⟩:=hI
     by_cases hin:i<P.length
     · have f1:=(zkI hP hin).1
       have l1:=hP.lamp i hin
       have le1:zcB w (P.getD i default) night known=0:=zlO l1 ⟨hni,hkn⟩ (by omega)
       refine zcN (by simp [-List.getD_eq_getElem?_getD];omega) (zan (by simp only;omega) ?_)
       simp only [Int.toNat_natCast]
       refine zax (zoO V (by omega) _ _ _) ?_
       rw [zlq le1 hs]
       refine zaP (by simp [-List.getD_eq_getElem?_getD]) (zan (fun _=>by omega) (zan (fun _=>by unfold inI;omega) ?_))
       refine zcn (fun hb=>?_) (fun _=>zag (by omega) (hK3 _ hin ⟨i1,by omega,fun x hx=>?_⟩))
       · simp only [Bool.and_eq_true,decide_eq_true_eq] at hb
         have hst:stI w P night known (allS w known) i=2:=hb.1.1
         refine zan (by omega) (za5 (by simp [-List.getD_eq_getElem?_getD];omega) (zag (by omega) (hK3 _ hin ⟨?_,by simp [-List.getD_eq_getElem?_getD];omega,fun x hx=>?_⟩)))
         · rw [List.pairwise_append]
           refine ⟨i1,List.pairwise_singleton _ _,fun a ha c hc2=>?_⟩
           rw [List.mem_singleton] at hc2
           obtain ⟨j,j1,_,j3⟩:=i3 a ha
           rw [hc2,j3]
           exact zkJ (zqz hP.ris) j1 hin
         · rcases List.mem_append.1 hx with hx|hx
           · obtain ⟨j,j1,j2,j3⟩:=i3 x hx
             exact ⟨j,by omega,j2,j3⟩
           · rw [List.mem_singleton] at hx
             exact ⟨i,by omega,zfJ.2 ⟨i,hin,hst,rfl⟩,hx⟩
       · obtain ⟨j,j1,j2,j3⟩:=i3 x hx
         exact ⟨j,by omega,j2,j3⟩
     · refine zaP (by simp [-List.getD_eq_getElem?_getD];omega) ?_
       simp only
       refine zjM (Q:=fun z=>z=63) (fun hlt=>?_) (fun z hz=>?_)
       · have hlt:=of_decide_eq_true hlt
         obtain ⟨v,v1,T',t1,t2,t3,t4,t5⟩:=zg1 hC (fuel:=1000) (by omega) (many:=many) (by omega) i1 (fun x hx=>by
          obtain ⟨j,_,j2,j3⟩:=i3 x hx
          exact ⟨(j:Int),j2,by rw [Int.toNat_natCast];exact j3⟩)
         refine ⟨v,v1,t5 (fun hc2=>?_)⟩
         have:=hmin T' t1 hc2
         omega
       · refine zaP ?_ (hK2 () trivial)
         by_cases hlt:(s.length:Int)<(l.length:Int)
         · rw [hz (decide_eq_true hlt)];simp [-List.getD_eq_getElem?_getD]
         · rw [decide_eq_false hlt];rfl
   · exact absurd hn0 (hno T0 hT0)
end Go.Sp
end
