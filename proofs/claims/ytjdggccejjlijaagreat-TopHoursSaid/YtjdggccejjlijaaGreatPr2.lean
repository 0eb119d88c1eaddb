/- Texts of the framework, or of the plain law, one behind another. -/
import Derived.Test.YtjdggccejjlijaaGreatPr1
import Derived.Test.YtjdggccejjlijaaGreatFr4
import Derived.KernelRfl
/- Plain laws, mantle: Settle and CheckSettle; MantleSettled. No program in sight. -/
section
set_option linter.all false
namespace Go.Sp
open Go.Av
set_option maxRecDepth 100000
theorem bs_int {P:List Int} (hP:P.Pairwise (· < ·)) (hl:P.length≤1000) {fuel:Nat} (hf:P.length<fuel) {q:Nat} (hq:q<P.length):zbx fuel P (P.getD q default)=some ((q:Int),true):=by
 have hc:∀ a b:Int,cmp_Less_int a b=decide (a<b):=fun a b=>by simp [-List.getD_eq_getElem?_getD,cmp_Less_int,cmp_isNaN_int]
 unfold zbx
 refine Wp.eq (wp_loop (fun s=>∃ lo hi:Nat,s=((lo:Int),(hi:Int))∧lo≤q∧q≤hi∧hi≤P.length) (fun s=>(s.2 - s.1).toNat) (by simp only;omega) ⟨0,P.length,rfl,by omega,by omega,by omega⟩ ?_)
 rintro _ K ⟨lo,hi,rfl,a1,a2,a3⟩ hK
 simp only at hK ⊢
 refine zbh (fun hlt=>?_) (fun hge=>?_)
 · have e2:Int.fdiv ((lo:Int)+hi) (2 ^ (1:Int).toNat)=(((lo+hi) / 2:Nat):Int):=by
    rw [show (1:Int).toNat=1 from rfl,zoA (by omega),show ((lo:Int)+hi).toNat=lo+hi by omega,Nat.shiftRight_eq_div_pow]
   rw [e2]
   generalize hm:(lo+hi) / 2=m
   refine zaf (by omega) (zan (by unfold inU;omega) (zaf (by omega) (zan (by omega) ?_)))
   rw [Int.toNat_natCast,hc]
   refine zbh (fun hc=>zaf (by omega) (hK _ ⟨m+1,hi,by simp [-List.getD_eq_getElem?_getD],?_,a2,a3⟩ (by simp only;omega))) (fun hc=>hK _ ⟨lo,m,rfl,a1,?_,by omega⟩ (by simp only;omega))
   · rcases Nat.lt_trichotomy m q with h|h|h
     · omega
     · subst h;omega
     · have:=znz hP h (by omega);omega
   · rcases Nat.lt_or_ge m q with h|h
     · have:=znz hP h hq;omega
     · exact h
 · have elo:lo=q:=by omega
   subst elo
   refine zan (fun _=>by omega) (zan (fun _=>by omega) (zam ?_))
   rw [Int.toNat_natCast]
   have e1:decide ((lo:Int)<(P.length:Int))=true:=by rw [decide_eq_true_eq];omega
   rw [e1]
   simp [-List.getD_eq_getElem?_getD]
theorem zrG {w:Wear} (V:WearOk w) (known:Int) (m:Nat):(allS w known m).length≤100:=by
 have h1:=zfZ (w:=w) (known:=known) (l:=w.Looks) (m:=m) w.Looks.length
 have h2:=V.nl
 have h3:(allS w known m).length≤w.Looks.length:=h1
 omega
theorem zle {w:Wear} (V:WearOk w) {known:Int} {m:Nat}:∀ s∈allS w known m,0≤s.night:=fun s hs=>by
 obtain ⟨l,hl,_,_,e⟩:=zeq.1 hs
 rw [e];exact (zf7 V).2 l hl
theorem zsf {w:Wear} (V:WearOk w) {P:List Int} {night known:Int} (hP:LotOk w P night known) (hs:zcp w known (allS w known)) (show_:Bool):∃ k,LotC w P night known (allS w known) show_ k:=by
 obtain ⟨k,hk⟩:=cut_ex V (S:=allS w known) (known:=known) (fun m _=>zle V) hP.nOk.1 show_
 exact ⟨k,V,hP,fun m _=>zle V,fun m _=>zrG V known m,hs,hk⟩
section
variable {w:Wear} {P:List Int} {night known:Int} {S:Nat→List mantle_sight} {show_:Bool} {k:Nat→Int}
theorem zlH (hP:LotOk w P night known) {q r:Int} (hq:q∈dbt w P night known S) (hr:r∈dbt w P night known S) (e:P.getD q.toNat default=P.getD r.toNat default):q=r:=by
 obtain ⟨a,rfl,ha⟩:=zge hq
 obtain ⟨b,rfl,hb⟩:=zge hr
 rw [Int.toNat_natCast,Int.toNat_natCast] at e
 have hs:=zsv hP.ris
 rcases Nat.lt_trichotomy a b with h|h|h
 · have:=znz hs h hb;omega
 · rw [h]
 · have:=znz hs h ha;omega
theorem LotC.same (h:LotC w P night known S show_ k) {T T':List Int} (hT:∀ i∈T,i∈Go.Sp.dbt w P night known S) (hT':∀ i∈T',i∈Go.Sp.dbt w P night known S) (hs:∀ i,i∈T↔i∈T'):dcd w P night known S show_ T=dcd w P night known S show_ T':=
 Nat.le_antisymm (h.mono hT hT' (fun i hi=>(hs i).1 hi)) (h.mono hT' hT (fun i hi=>(hs i).2 hi))
def zsx (w:Wear) (P:List Int) (night known:Int) (S:Nat→List mantle_sight) (show_:Bool) (many:Int) (r:List Int×Int):Prop:=
 (r.2=0∧r.1.Pairwise (· < ·)∧∃ T,Some w P night known S (fun _=>True) T∧T.length=r.1.length∧(∀ x,x∈r.1↔∃ q∈T,x=P.getD q.toNat default)∧need w P night known S show_ many≤(dcd w P night known S show_ T:Int)∧∀ T',Some w P night known S (fun _=>True) T'→need w P night known S show_ many≤(dcd w P night known S show_ T':Int)→T.length≤T'.length) ∨
 (r.2=3∧r.1=[]∧∀ T,Some w P night known S (fun _=>True) T→¬ need w P night known S show_ many≤(dcd w P night known S show_ T:Int))
theorem zpx (h:LotC w P night known (allS w known) show_ k) {fuel:Nat} (hf:1000≤fuel) {many:Int} (hm:0≤many∧many≤20) {post:List Int×Int→Option Unit} (hp:∀ r,zsx w P night known (allS w known) show_ many r→Wp (post r) (fun _=>True)):Wp (zdm fuel w P night known many show_ post) (fun _=>True):=by
 have hl20:=h.ok.len
 unfold zdm
 refine wp_bind (zfY h.V hf h.ok hm h.sound) (fun y hy=>?_)
 obtain ⟨h1,h2⟩:=hy
 rw [h1]
 refine zax (by simp [-List.getD_eq_getElem?_getD]) (h.fewest h2.toS hf many (fun r hr=>?_))
 obtain ⟨T,b⟩:=r
 rcases hr with ⟨e,hT,hn,hmin⟩|⟨e,hno⟩
 · simp only at e hT hn hmin ⊢
   subst e
   have hTl:=hT.znC h.ok
   refine zax rfl (za9 (fun i s=>s=(T.take i).map (fun q=>P.getD q.toNat default)) rfl (fun i s K hi hI hK=>?_) (fun s hs=>?_))
   · subst hI
     obtain ⟨q,eq,hq⟩:=zge (hT.mem _ (za4 hi))
     rw [eq,Int.toNat_natCast]
     refine zan (by omega) (zb0 (by simp [-List.getD_eq_getElem?_getD];omega) (hK _ ?_))
     rw [zbM hi,List.map_append,eq];rfl
   · rw [List.take_length] at hs
     have hsl:s.length=T.length:=by rw [hs,List.length_map]
     refine zai (zdf (by omega) _:zcH s=_) (zan (zeL _) (hp _ (.inl ⟨rfl,?_,T,hT,by rw [zeL,hsl],fun x=>?_,hn,hmin⟩)))
     · have hnd:(isort s).Nodup:=(zfJ s).nodup_iff.2 (by
        rw [hs]
        exact zj9 hT.nd (fun a ha c hc e=>zlH h.ok (hT.mem a ha) (hT.mem c hc) e))
       exact List.Pairwise.imp (fun {a b} (h:a≤b∧a≠b)=>(by omega:a<b)) (List.Pairwise.and (zgE s) hnd)
     · rw [(zfJ s).mem_iff,hs,List.mem_map]
       exact ⟨fun ⟨q,hq,e⟩=>⟨q,hq,e.symm⟩,fun ⟨q,hq,e⟩=>⟨q,hq,e.symm⟩⟩
 · simp only at e hno ⊢
   subst e
   exact zeS rfl (hp _ (.inr ⟨rfl,rfl,hno⟩))
theorem zkM (h:LotC w P night known (allS w known) show_ k) {fuel:Nat} (hf:1000≤fuel) {many:Int} (hm:0≤many∧many≤20) {L:List Int} (hL:L.Pairwise (· < ·)) (hD:∀ x∈L,∃ q∈Go.Sp.dbt w P night known (allS w known),x=P.getD q.toNat default) :
 Wp (zcz fuel w P night known many show_ L) (fun r=>∃ T,Some w P night known (allS w known) (fun _=>True) T∧T.length=L.length∧(∀ q,q∈T↔q∈Go.Sp.dbt w P night known (allS w known)∧P.getD q.toNat default∈L)∧(need w P night known (allS w known) show_ many≤(dcd w P night known (allS w known) show_ T:Int)→r=0)∧(¬ need w P night known (allS w known) show_ many≤(dcd w P night known (allS w known) show_ T:Int)→r=63)):=by
 have hl20:=h.ok.len
 unfold zcz
 refine wp_bind (zfY h.V hf h.ok hm h.sound) (fun y hy=>?_)
 obtain ⟨h1,h2⟩:=hy
 rw [h1]
 refine zax (by simp [-List.getD_eq_getElem?_getD]) (zai (zhN h.V h.ok h2.toS) ?_)
 have hLl:L.length≤20:=by
  have hLn:L.Nodup:=hL.imp (fun h=>Int.ne_of_lt h)
  have:L.length≤P.length:=zfj hLn (fun x hx=>by
   obtain ⟨q,hq,e⟩:=hD x hx
   obtain ⟨a,rfl,ha⟩:=zge hq
   rw [e,Int.toNat_natCast]
   exact za4 ha)
  omega
 refine za9 (fun i s=>s.length=i∧(∀ q∈s,q∈Go.Sp.dbt w P night known (allS w known))∧s.map (fun q=>P.getD q.toNat default)=L.take i) ⟨rfl,fun q hq=>(by cases hq),rfl⟩ (fun i s K hi hI hK=>?_) (fun s hs=>?_)
 · obtain ⟨i1,i2,i3⟩:=hI
   obtain ⟨q,hq,e⟩:=hD _ (za4 hi)
   obtain ⟨a,rfl,ha⟩:=zge hq
   rw [Int.toNat_natCast] at e
   rw [e]
   have hrise:(decide (0<(i:Int)) && decide (P.getD a default≤L.getD ((i:Int) - 1).toNat default))=false:=by
    rw [Bool.and_eq_false_iff,decide_eq_false_iff_not,decide_eq_false_iff_not,← e]
    by_cases h0:0<i
    · have:((i:Int) - 1).toNat=i - 1:=by omega
      rw [this]
      have:=znz hL (show i - 1<i by omega) hi
      exact .inr (by omega)
    · exact .inl (by omega)
   refine zai (bs_int (zsv h.ok.ris) (by omega) (by omega) ha) (zan (fun _=>by unfold inI;omega) (zan (fun hg=>by simp [-List.getD_eq_getElem?_getD] at hg;omega) ?_))
   simp only
   rw [hrise]
   obtain ⟨c,c1,c2⟩:=zmC (Go.Sp.dbt w P night known (allS w known)) (a:Int)
   refine zhZ rfl c1 ?_
   rw [c2.2 hq]
   refine zax rfl (zb0 (by simp [-List.getD_eq_getElem?_getD];omega) (hK _ ⟨by simp [-List.getD_eq_getElem?_getD,i1],fun r hr=>?_,?_⟩))
   · rcases List.mem_append.1 hr with hr|hr
     · exact i2 r hr
     · rw [List.mem_singleton] at hr;rw [hr];exact hq
   · rw [List.map_append,i3,zbM hi,e]
     simp only [List.map_cons,List.map_nil,Int.toNat_natCast]
 · obtain ⟨s1,s2,s3⟩:=hs
   rw [List.take_length] at s3
   have hnd:s.Nodup:=by
    have hLn:L.Nodup:=hL.imp (fun h=>Int.ne_of_lt h)
    rw [← s3] at hLn
    exact List.Pairwise.imp (fun {a b} (hab:P.getD a.toNat default≠P.getD b.toNat default) e=>hab (by rw [e])) (List.pairwise_map.1 hLn)
   have hsome:Some w P night known (allS w known) (fun _=>True) s:=⟨s2,hnd,fun _ _=>trivial⟩
   have hset:=h.settles s2 (by omega) h2.toS many
   have hmem:∀ q,q∈s↔q∈Go.Sp.dbt w P night known (allS w known)∧P.getD q.toNat default∈L:=fun q=>by
    constructor
    · intro hq
      exact ⟨s2 q hq,by rw [← s3];exact List.mem_map.2 ⟨q,hq,rfl⟩⟩
    · rintro ⟨a1,a2⟩
      rw [← s3] at a2
      obtain ⟨r,r1,r2⟩:=List.mem_map.1 a2
      rw [← zlH h.ok (s2 r r1) a1 r2];exact r1
   refine zai hset ?_
   by_cases hc:need w P night known (allS w known) show_ many≤(dcd w P night known (allS w known) show_ s:Int)
   · rw [decide_eq_true hc]
     exact zax rfl (zam ⟨s,hsome,s1,hmem,fun _=>rfl,fun k=>absurd hc k⟩)
   · rw [decide_eq_false hc]
     exact zeS rfl (zam ⟨s,hsome,s1,hmem,fun k=>absurd k hc,fun _=>rfl⟩)
noncomputable def nLo (w:Wear) (P:List Int) (night known:Int) (S:Nat→List mantle_sight):Int:=zaM (fun i=>decide (stI w P night known S i=1)) (fun _=>1) P.length
noncomputable def nHi (w:Wear) (P:List Int) (night known:Int) (S:Nat→List mantle_sight):Int:=zaM (fun i=>!decide (stI w P night known S i=0)) (fun _=>1) P.length
theorem zss:((dbt w P night known S).length:Int)=zaM (fun i=>decide (stI w P night known S i=2)) (fun _=>1) P.length:=by
 have go:∀ n,((dbtN w P night known S n).length:Int)=zaM (fun i=>decide (stI w P night known S i=2)) (fun _=>1) n:=by
  intro n
  induction n with
  | zero=>rfl
  | succ n ih=>
   rw [zij]
   unfold zaM
   rw [← ih]
   by_cases h1:stI w P night known S n=2
   · rw [if_pos h1,if_pos (decide_eq_true h1),List.length_append];rfl
   · rw [if_neg h1,if_neg (by rw [decide_eq_true_eq];exact h1),Int.add_zero]
 exact go P.length
theorem zqV (i:Nat):stI w P night known S i=0∨stI w P night known S i=1∨stI w P night known S i=2:=by
 rcases zdk (w:=w) (known:=known) (S:=S) (m:=mI w P night known i) (night:=night) with ⟨s,_⟩|⟨s,_⟩|⟨s,_⟩
 · exact .inl s
 · exact .inr (.inl s)
 · exact .inr (.inr s)
theorem zpR:nHi w P night known S=nLo w P night known S+((dbt w P night known S).length:Int):=by
 rw [zss]
 unfold nHi nLo
 refine zdt (fun i hi=>?_) (fun i hi c=>?_)
 · rcases zqV (w:=w) (P:=P) (night:=night) (known:=known) (S:=S) i with h|h|h <;> rw [h] <;> rfl
 · have c1:=of_decide_eq_true c.1
   rw [c1] at c;simp [-List.getD_eq_getElem?_getD] at c
theorem zmD (V:WearOk w) {fuel:Nat} (hf:1000≤fuel) (hP:LotOk w P night known) (hs:zcp w known (allS w known)) {many:Int} (hm:0≤many∧many≤20):zcQ fuel w P night known many=some (zaw ⟨nLo w P night known (allS w known),nHi w P night known (allS w known)⟩ many,0):=by
 unfold zcQ
 refine Wp.eq (wp_bind (zfY V hf hP hm hs) (fun y hy=>?_))
 obtain ⟨h1,h2⟩:=hy
 rw [h1]
 exact zax (by simp [-List.getD_eq_getElem?_getD]) (zai (zj8 V hP h2.toS) (zam rfl))
theorem LotC.zld (h:LotC w P night known S show_ k) (many:Int):(∃ T,Some w P night known S (fun _=>True) T∧need w P night known S show_ many≤(dcd w P night known S show_ T:Int))↔need w P night known S show_ many≤((Go.Sp.dbt w P night known S).length:Int):=by
 constructor
 · rintro ⟨T,_,hn⟩
   have:dcd w P night known S show_ T≤(Go.Sp.dbt w P night known S).length:=List.length_filter_le _ _
   omega
 · intro hn
   exact ⟨_,⟨fun i hi=>hi,ziZ,fun _ _=>trivial⟩,by rw [h.all];exact hn⟩
theorem zkb {many:Int}:need w P night known S true many=many+1 - nLo w P night known S:=by unfold need nLo;exact if_pos rfl
theorem zlB {many:Int}:need w P night known S false many=nHi w P night known S - many:=by unfold need nHi;exact if_neg (by decide)
end
theorem zoN {f:(Bool→Option Unit)→Option Unit} (h:Wp (f isTrue) (fun _=>True)):zjW f=some true:=by
 obtain ⟨u,e,_⟩:=h
 unfold zjW
 rw [e]
theorem claim_none {w:Wear} {P:List Int} {night known many:Int} {S:Nat→List mantle_sight} {show_:Bool} {k:Nat→Int} (h:LotC w P night known S show_ k) (hc:((show_ && decide (zaw ⟨nLo w P night known S,nHi w P night known S⟩ many=0)) || (!show_ && decide (zaw ⟨nLo w P night known S,nHi w P night known S⟩ many=1)))=true):¬ ∃ T,Some w P night known S (fun _=>True) T∧need w P night known S show_ many≤(dcd w P night known S show_ T:Int):=by
 rw [h.zld]
 have e:=zpR (w:=w) (P:=P) (night:=night) (known:=known) (S:=S)
 cases show_ with
 | true=>
  simp only [Bool.true_and,Bool.not_true,Bool.false_and,Bool.or_false,decide_eq_true_eq,zi1] at hc
  rw [zkb];omega
 | false=>
  simp only [Bool.true_and,Bool.not_false,Bool.false_and,Bool.false_or,decide_eq_true_eq,zi0] at hc
  rw [zlB];omega
theorem zph {w:Wear} {P:List Int} {night known many:Int} {S:Nat→List mantle_sight} {show_:Bool} {k:Nat→Int} (h:LotC w P night known S show_ k) (hc:((show_ && decide (zaw ⟨nLo w P night known S,nHi w P night known S⟩ many=0)) || (!show_ && decide (zaw ⟨nLo w P night known S,nHi w P night known S⟩ many=1)))=false):(∃ T,Some w P night known S (fun _=>True) T∧need w P night known S show_ many≤(dcd w P night known S show_ T:Int))∧(zaw ⟨nLo w P night known S,nHi w P night known S⟩ many≠2↔need w P night known S show_ many≤0):=by
 rw [h.zld]
 have e:=zpR (w:=w) (P:=P) (night:=night) (known:=known) (S:=S)
 have c2:zaw ⟨nLo w P night known S,nHi w P night known S⟩ many≠2↔zaw ⟨nLo w P night known S,nHi w P night known S⟩ many=1∨zaw ⟨nLo w P night known S,nHi w P night known S⟩ many=0:=by
  unfold zaw
  generalize decide (many<_)=b1
  generalize decide (_≤many)=b2
  cases b1 <;> cases b2 <;> decide
 rw [c2,zi1,zi0]
 cases show_ with
 | true=>
  simp only [Bool.true_and,Bool.not_true,Bool.false_and,Bool.or_false,decide_eq_false_iff_not,zi1] at hc
  rw [zkb]
  simp only
  constructor
  · omega
  · constructor
    · intro h1;omega
    · intro h1;exact .inl (by omega)
 | false=>
  simp only [Bool.true_and,Bool.not_false,Bool.false_and,Bool.false_or,decide_eq_false_iff_not,zi0] at hc
  rw [zlB]
  simp only
  constructor
  · omega
  · constructor
    · intro h1;omega
    · intro h1;exact .inr ⟨by omega,by omega⟩
end Go.Sp
end
/- Plain laws, mantle: looks that are added to a wear, and what they settle. No program in sight. -/
section
set_option linter.all false
namespace Go.Sp
open Go.Av
set_option maxRecDepth 100000
theorem zo6 {w:Wear} (V:WearOk w) {x:Look} {fuel:Nat} (hf:100<fuel) (hx:ziz x) (hs:∀ y∈w.Looks,y.Source<x.Source) (hl:w.Looks.length<60):zb9 fuel w x=some (zar w (w.Looks++[x]),0)∧WearOk (zar w (w.Looks++[x])):=by
 have hk:InsAt w.Looks x w.Looks.length:=⟨Nat.le_refl _,fun i hi=>hs _ (za4 hi),fun i h1 h2=>absurd h1 (by omega)⟩
 have hne:∀ y∈w.Looks,y.Source≠x.Source:=fun y hy=>by have:=hs y hy;omega
 have e0:zh1 w x w.Looks.length=zar w (w.Looks++[x]):=by
  unfold zh1 zar
  rw [List.take_length,List.drop_length,List.append_nil]
 have hok:=znj V hk hx hne hl
 rw [e0] at hok
 refine ⟨?_,hok⟩
 rw [mlooked V hk hf]
 unfold znA
 have e1:((!decide (zaY x=0)) || (decide (w.Looks.length<w.Looks.length) && decide ((w.Looks.getD w.Looks.length default).Source=x.Source)))=false:=by
  rw [Bool.or_eq_false_iff]
  refine ⟨by rw [zk2.2 hx];rfl,?_⟩
  rw [Bool.and_eq_false_iff,decide_eq_false_iff_not]
  exact .inl (by omega)
 rw [e1]
 have e2:decide (w.Looks.length=60)=false:=by rw [decide_eq_false_iff_not];omega
 rw [e2,e0];rfl
theorem zqG {w:Wear} {known:Int} {S S':Nat→List mantle_sight} (h:∀ m s,s∈S m↔s∈S' m) {m:Nat} {night:Int} {b:Bool}:zc0 w known S m night b↔zc0 w known S' m night b:=⟨fun k=>zkB (fun m s hs=>(h m s).2 hs) k,fun k=>zkB (fun m s hs=>(h m s).1 hs) k⟩
theorem zoS {w w':Wear} {known:Int} {S S':Nat→List mantle_sight} {m:Nat} {night:Int} (h:∀ b,zc0 w known S m night b↔zc0 w' known S' m night b):stateR w known S m night=stateR w' known S' m night:=by
 rcases zdk (w:=w) (known:=known) (S:=S) (m:=m) (night:=night) with ⟨s,k1⟩|⟨s,k1,k2⟩|⟨s,k1,k2⟩
 · rw [s];exact (zjA (fun c=>k1 ((h _).2 c))).symm
 · rw [s];exact (zjz ((h _).1 k1) (fun c=>k2 ((h _).2 c))).symm
 · rw [s];exact (zjy ((h _).1 k1) ((h _).1 k2)).symm
section
variable {w:Wear} {P:List Int} {night known:Int} {S:Nat→List mantle_sight} {show_:Bool} {k:Nat→Int}
theorem LotC.zra (h:LotC w P night known S true k) {T:List Int} (hT:∀ i∈T,i∈Go.Sp.dbt w P night known S):nLo w P night known (zco w P night known S true T)=nLo w P night known S+(dcd w P night known S true T:Int):=by
 rw [znS]
 refine zdt (fun i hi=>?_) (fun i hi c=>?_)
 · by_cases h2:stI w P night known S i=2
   · rw [h.zkW hT hi h2,h2,if_pos rfl]
     cases decB w P night known S true T (i:Int) <;> rfl
   · rw [h.stays hT hi h2,decide_eq_false h2,Bool.false_and,Bool.or_false]
 · obtain ⟨c1,c2⟩:=c
   have c1:=of_decide_eq_true c1
   rw [c1] at c2;simp [-List.getD_eq_getElem?_getD] at c2
theorem LotC.zr9 (h:LotC w P night known S false k) {T:List Int} (hT:∀ i∈T,i∈Go.Sp.dbt w P night known S):nHi w P night known S=nHi w P night known (zco w P night known S false T)+(dcd w P night known S false T:Int):=by
 rw [znS]
 refine zdt (fun i hi=>?_) (fun i hi c=>?_)
 · by_cases h2:stI w P night known S i=2
   · rw [h.zkW hT hi h2,h2]
     cases decB w P night known S false T (i:Int) <;> rfl
   · rw [h.stays hT hi h2,decide_eq_false h2,Bool.false_and,Bool.or_false]
 · obtain ⟨c1,c2⟩:=c
   simp only [Bool.and_eq_true,decide_eq_true_eq] at c2
   rw [h.zkW hT hi c2.1,if_pos c2.2] at c1
   simp [-List.getD_eq_getElem?_getD] at c1
theorem nLo_le:nLo w P night known S≤nHi w P night known S:=by
 have:=zpR (w:=w) (P:=P) (night:=night) (known:=known) (S:=S)
 omega
def zfr (night:Int) (show_:Bool) (i:Nat) (lamp:Int):Look:=⟨200+(i:Int),lamp,night,show_,0,0⟩
def zbk (night:Int) (show_:Bool) (l:List Int) (n:Nat):List Look:=(List.range n).map (fun i=>zfr night show_ i (l.getD i default))
theorem zlw {night:Int} {show_:Bool} {l:List Int} {n:Nat}:zbk night show_ l (n+1)=zbk night show_ l n++[zfr night show_ n (l.getD n default)]:=by
 unfold zbk
 rw [List.range_succ,List.map_append];rfl
theorem zja {night:Int} {show_:Bool} {l:List Int} {n:Nat} {y:Look}:y∈zbk night show_ l n↔∃ i,i<n∧y=zfr night show_ i (l.getD i default):=by
 unfold zbk
 rw [List.mem_map]
 constructor
 · rintro ⟨i,hi,e⟩;exact ⟨i,List.mem_range.1 hi,e.symm⟩
 · rintro ⟨i,hi,e⟩;exact ⟨i,List.mem_range.2 hi,e.symm⟩
theorem zjY (hP:LotOk w P night known) (hk:0≤known) {T l:List Int} (hT:∀ i∈T,i∈dbt w P night known S) (hl:∀ x,x∈l↔∃ q∈T,x=P.getD q.toNat default) {m:Nat} {s:mantle_sight}:s∈allS (zar w (w.Looks++zbk night show_ l l.length)) known m↔s∈zco w P night known (allS w known) show_ T m:=by
 rw [zcM]
 have hc:zaq 0 0 known=true:=by
  unfold zaq;simp [-List.getD_eq_getElem?_getD];omega
 constructor
 · intro hs
   obtain ⟨y,hy,h1,h2,h3⟩:=zeq.1 hs
   rw [zhw] at h1
   rcases List.mem_append.1 hy with hy|hy
   · exact .inl (zeq.2 ⟨y,hy,h1,h2,h3⟩)
   · obtain ⟨i,hi,e⟩:=zja.1 hy
     subst e
     refine .inr ⟨h3,?_⟩
     obtain ⟨q,hq,e⟩:=(hl _).1 (za4 hi)
     refine ⟨q,hq,?_⟩
     have h1:fit w (l.getD i default) night known=(m:Int):=h1
     rw [e] at h1
     unfold mI
     rw [h1,Int.toNat_natCast]
 · rintro (hs|⟨e,q,hq,hm⟩)
   · obtain ⟨y,hy,h1,h2,h3⟩:=zeq.1 hs
     exact zeq.2 ⟨y,List.mem_append.2 (.inl hy),by rw [zhw];exact h1,h2,h3⟩
   · obtain ⟨i,hi,ei⟩:=zdg ((hl _).2 ⟨q,hq,rfl⟩)
     obtain ⟨a,rfl,ha⟩:=zge (hT q hq)
     rw [Int.toNat_natCast] at ei hm
     refine zeq.2 ⟨zfr night show_ i (l.getD i default),List.mem_append.2 (.inr (zja.2 ⟨i,hi,rfl⟩)),?_,hc,e⟩
     rw [zhw]
     show fit w (l.getD i default) night known=(m:Int)
     rw [ei,← hm]
     exact (zlE hP ha).1
theorem zrK {L:List Look} {S':Nat→List mantle_sight} (h:∀ m s,s∈S' m↔s∈S m) (i:Nat):stI (zar w L) P night known S' i=stI w P night known S i:=by
 unfold stI
 have e:mI (zar w L) P night known i=mI w P night known i:=by unfold mI;rw [zhw]
 rw [e]
 exact zoS (fun b=>(zqG h).trans zrA)
theorem nLo_re {L:List Look} {S':Nat→List mantle_sight} (h:∀ m s,s∈S' m↔s∈S m):nLo (zar w L) P night known S'=nLo w P night known S:=zh5 (fun i _=>by rw [zrK h])
theorem nHi_re {L:List Look} {S':Nat→List mantle_sight} (h:∀ m s,s∈S' m↔s∈S m):nHi (zar w L) P night known S'=nHi w P night known S:=zh5 (fun i _=>by rw [zrK h])
end
end Go.Sp
end
/- Plain laws, TopHours: the bye-law of the winter's nights. No program in sight. -/
section
set_option linter.all false
namespace Go.Sp
open Go.Av
set_option maxRecDepth 100000
def hv:Version:=⟨1,1,0,⟨0,40⟩,⟨5,50⟩,1001,0,0,0⟩
def hb:Bylaw:=⟨[hv],[⟨1,1,1,1,4⟩]⟩
def hn (no s a r c:Int):Night:=⟨no,⟨s,s+a⟩,⟨r,r+c⟩,⟨0,0⟩,0⟩
structure NightW (no s a r c:Int):Prop where
 no:1≤no∧no≤5
 s:250≤s∧s<350
 a:0≤a∧a<9
 r:900≤r∧r<1100
 c:0≤c∧c<9
theorem zrk:zgi hb=some 0:=by kernel_rfl
theorem zrh {no s a r c:Int} (h:NightW no s a r c):zbG (hn no s a r c)=0:=by
 obtain ⟨h1,h2,h3,h4,h5⟩:=h
 unfold zbG hn
 refine Eq.trans (congrArg (fun c=>cond c (12:Int) 0) (?_:_=false)) rfl
 simp [zaJ,za8,zaX]
 omega
theorem zqf {lamp:Int} (h:1≤lamp∧lamp≤4):zcc hb lamp=some (⟨1,1,1,1,4⟩,0):=by
 have e1:zcc hb 1=some (⟨1,1,1,1,4⟩,0):=by kernel_rfl
 have e2:zcc hb 2=some (⟨1,1,1,1,4⟩,0):=by kernel_rfl
 have e3:zcc hb 3=some (⟨1,1,1,1,4⟩,0):=by kernel_rfl
 have e4:zcc hb 4=some (⟨1,1,1,1,4⟩,0):=by kernel_rfl
 have:lamp=1∨lamp=2∨lamp=3∨lamp=4:=by omega
 rcases this with e|e|e|e
 · rw [e];exact e1
 · rw [e];exact e2
 · rw [e];exact e3
 · rw [e];exact e4
theorem zrj {lamp:Int} (h:1≤lamp∧lamp≤4) (n:Night) (hn:1≤n.No):zff hb lamp n 0=some (⟨hv,n⟩,0):=by
 refine Wp.eq ?_
 unfold zff
 refine zai (zqf h) (zax rfl ?_)
 have ef:zel hb 1 n.No 0=some (hv,0):=by
  refine Wp.eq ?_
  unfold zel
  refine za9 (fun i v=>if i=0 then v=⟨0,0,0,⟨0,0⟩,⟨0,0⟩,0,0,0,0⟩ else v=hv) rfl (fun i v K hi hI hK=>?_) (fun v hI=>?_)
  · have:i=0:=by simpa [hb] using hi
    subst this
    rw [if_pos rfl] at hI
    subst hI
    refine zeS ?_ (hK _ rfl)
    have:decide ((0:Int)≤n.No)=true:=by rw [decide_eq_true_eq];omega
    show ((((decide ((1:Int)=1)) && (decide ((0:Int)≤n.No))) && (decide ((0:Int)≤0))) && ((decide ((0:Int)=0)) || (decide ((0:Int)<0)))) && (decide ((0:Int)≤0))=true
    rw [this];rfl
  · rw [if_neg (by simp [hb])] at hI
    subst hI
    exact zax rfl (zam rfl)
 exact zai ef (zam rfl)
theorem zsi {lamp no s a r c:Int} (h:1≤lamp∧lamp≤4) (hN:NightW no s a r c):zfP hb lamp (hn no s a r c) 0=some (⟨hv,hn no s a r c⟩,0):=by
 refine Wp.eq ?_
 unfold zfP
 refine zai zrk (zax rfl ?_)
 rw [zrh hN]
 exact zax rfl (zax rfl (zai (zrj h _ hN.no.1) (zam rfl)))
theorem hDuty {lamp no s a r c:Int} (h:1≤lamp∧lamp≤4) (hN:NightW no s a r c):zew hb lamp (hn no s a r c) 0=some (⟨1,⟨s+a,s+40⟩,⟨r+c - 50,r - 5⟩⟩,0):=by
 obtain ⟨n1,n2,n3,n4,n5⟩:=id hN
 refine Wp.eq ?_
 unfold zew
 refine zai (zsi h hN) (zax rfl ?_)
 have el:zbd ⟨hv,hn no s a r c⟩=1:=rfl
 have e1:zct ⟨hv,hn no s a r c⟩=some ⟨s+a,s+40⟩:=by
  refine Wp.eq ?_
  unfold zct
  have f1:zcg ⟨hv,hn no s a r c⟩ [1]=some 0:=rfl
  have f2:zcg ⟨hv,hn no s a r c⟩ [1,2]=some 0:=rfl
  simp only [hv,hn] at f1 f2 ⊢
  refine zaf (by omega) (zai f1 (zaf (by omega) (zaf (by omega) (zai f2 (zaf (by omega) (zam ?_))))))
  unfold zcu
  rw [Range.mk.injEq]
  omega
 have e2:zcf ⟨hv,hn no s a r c⟩=some ⟨r+c - 50,r - 5⟩:=by
  refine Wp.eq ?_
  unfold zcf
  simp only [hv,hn]
  refine zaf (by omega) (zaf (by omega) (zam ?_))
  unfold zcu
  rw [Range.mk.injEq]
  omega
 have m1:∀ q:Range,q.Lo≤q.Hi→zbt ⟨hv,hn no s a r c⟩ (some q)=some (q,0):=fun q hq=>by
  refine Wp.eq ?_
  unfold zbt
  rw [el]
  exact zax rfl (zai rfl (zax (decide_eq_false (by omega)) (zam rfl)))
 have e:zcB ⟨hv,hn no s a r c⟩=some (⟨1,⟨s+a,s+40⟩,⟨r+c - 50,r - 5⟩⟩,0):=by
  refine Wp.eq ?_
  unfold zcB
  rw [el]
  refine zax rfl ?_
  rw [e1,e2]
  exact zai (m1 _ (by simp only;omega)) (zax rfl (zai (m1 _ (by simp only;omega)) (zax rfl (zam rfl))))
 exact zai e (zam rfl)
theorem hBurns {lamp no s a r c:Int} (h:1≤lamp∧lamp≤4) (hN:NightW no s a r c):zex hb lamp (hn no s a r c) 0=some (⟨r+c - 50 - (s+40),r - 5 - (s+a)⟩,0):=by
 obtain ⟨n1,n2,n3,n4,n5⟩:=id hN
 refine Wp.eq ?_
 unfold zex
 refine zai (hDuty h hN) (zax rfl ?_)
 simp only
 refine zaf (by omega) (zaf (by omega) (zn0 (zax rfl (zam ?_))))
 rw [Prod.mk.injEq,Range.mk.injEq]
 exact ⟨⟨by omega,by omega⟩,rfl⟩
end Go.Sp
end
/- Plain laws, TopHours: the wear of a winter. No program in sight. -/
section
set_option linter.all false
namespace Go.Sp
open Go.Av
set_option maxRecDepth 100000
theorem zea {n m:Int} (hm:0<m∧m≤4611686018427387904):Wp (zaB n m) (fun r=>0≤r∧r<m):=by
 unfold zaB
 have h1:=Int.tmod_lt_of_pos n hm.1
 have h2 : -m<Int.tmod n m:=by
  have:=Int.tmod_lt_of_pos (-n) hm.1
  rw [Int.neg_tmod] at this
  omega
 refine zan (by omega) (zaf (by omega) (zan (by omega) (zam ⟨Int.tmod_nonneg _ (by omega),Int.tmod_lt_of_pos _ hm.1⟩)))
theorem zlz {l:List Int} {i:Int} (hl:l.length≤4611686018427387904):Wp (zbC l i) (fun _=>True):=by
 unfold zbC
 refine zbh (fun _=>zam trivial) (fun h=>?_)
 have h0:(0:Int)<(l.length:Int):=by omega
 exact wp_bind (zea ⟨h0,by omega⟩) (fun y hy=>zan hy (zam trivial))
theorem znG (l:List Int) (x:Int):Wp (zbR l x) (fun b=>b=true↔x∈l):=by
 unfold zbR
 refine zd7 (fun i=>l.getD i default≠x) (fun i K hi _ hK=>zbh (fun h=>zam ⟨fun _=>h▸za4 hi,fun _=>rfl⟩) (fun h=>hK h)) (fun h=>zam ⟨fun h=>(by cases h),fun hx=>?_⟩)
 obtain ⟨i,hi,e⟩:=zdg hx
 exact absurd e (h i hi)
structure WinV (w:Wear) (t:Lives):Prop where
 ok:WearOk w
 tr:TrueT w t
 looks:w.Looks=[]
 nm:w.Mantles.length=4
 lamp:∀ j:Nat,j<4→(mt w j).Lamp=(j:Int)+1∧(mt w j).Night=0∧(mt w j).Known=0∧(mt w j).Until=0
theorem zpt {fuel:Nat} (hf:1000≤fuel) (x:gasoliertop_Winter) (h1:x.Batch.length≤4611686018427387904) (h2:x.Burnt.length≤4611686018427387904) (h3:x.Lives.length≤4611686018427387904) (h4:x.Nights.length≤4611686018427387904):Wp (zb7 fuel x) (fun z=>z.2.2=true∧WinV z.1 z.2.1):=by
 unfold zb7
 refine zpp 2 (by omega) (fun i s=>s.1.length=i∧s.2.length=i∧zgj BatchOk (·.Id) s.1∧(∀ j,j<i→(s.1.getD j default).Id=(j:Int)+1)∧∀ j,j<i→inR (s.1.getD j default).Life (s.2.getD j default)) ⟨rfl,rfl,zjM,fun j hj=>absurd hj (Nat.not_lt_zero _),fun j hj=>absurd hj (Nat.not_lt_zero _)⟩ (fun i s K hi hI hK=>?_)
 obtain ⟨bs,ls⟩:=s
 obtain ⟨b1,b2,b3,b4,b5⟩:=hI
 simp only at b1 b2 b3 b4 b5 ⊢
 refine zbh (fun hi2=>?_) (fun hi2=>?_)
 · refine zgs (fun _=>True) (fun K2 hK2=>?_) (fun s3 _=>?_)
   · exact zbh (fun h=>zan (by omega) (hK2 _ trivial)) (fun h=>hK2 _ trivial)
   refine wp_bind (zea (by omega)) (fun lo hlo=>wp_bind (zea (by omega)) (fun d hd=>zaf (by omega) (zaf (by omega) (zb0 (by simp [-List.getD_eq_getElem?_getD];omega) (zaf (by omega) (zaf (by omega) ?_))))))
   refine wp_bind (zea (by omega)) (fun v hv=>zaf (by omega) (zb0 (by simp [-List.getD_eq_getElem?_getD];omega) (zaf (by omega) (hK _ (by omega) ?_))))
   refine ⟨by simp [-List.getD_eq_getElem?_getD,b1],by simp [-List.getD_eq_getElem?_getD,b2],zkr b3 ⟨by simp only;omega,by simp only;omega⟩ (fun y hy=>?_),fun j hj=>?_,fun j hj=>?_⟩
   · obtain ⟨j,hj,e⟩:=zdg hy
     have:=b4 j (by omega)
     rw [e] at this
     simp only;omega
   · rw [zdL]
     by_cases e:j=bs.length
     · rw [if_pos e];simp only;omega
     · rw [if_neg e];exact b4 j (by omega)
   · rw [zdL,zdL]
     by_cases e:j=bs.length
     · rw [if_pos e,if_pos (by omega)];unfold inR;simp only;omega
     · rw [if_neg e,if_neg (by omega)];exact b5 j (by omega)
 have hi2:i=2:=by omega
 subst hi2
 refine wp_loop (fun s=>∃ i:Nat,s.1=(i:Int)+1∧i≤4∧s.2.length=i∧zgj MantleOk (·.Source) s.2∧∀ k,k<i→∃ b:Int,1≤b∧b≤2∧s.2.getD k default=⟨(k:Int)+1,(k:Int)+1,b,0,0,0⟩) (fun s=>10 - s.1.toNat) (by simp only;omega) ⟨0,rfl,by omega,rfl,zjM,fun k hk=>absurd hk (Nat.not_lt_zero _)⟩ (fun s K2 hI2 hK2=>?_)
 obtain ⟨u,ms⟩:=s
 obtain ⟨i,m1,m2,m3,m4,m5⟩:=hI2
 simp only at m1 m3 m4 m5 hK2 ⊢
 subst m1
 refine zbh (fun hi4=>?_) (fun hi4=>?_)
 · refine wp_bind (zlz h1) (fun p _=>wp_bind (zea (by omega)) (fun b hb=>zaf (by omega) (zb0 (by simp [-List.getD_eq_getElem?_getD];omega) (zaf (by omega) (hK2 _ ⟨i+1,by simp [-List.getD_eq_getElem?_getD],by omega,by simp [-List.getD_eq_getElem?_getD,m3],zkr m4 ⟨⟨by simp only;omega,by simp only;omega,by simp only;omega,by simp only;omega,.inl rfl⟩,by simp only;omega⟩ (fun y hy=>?_),fun k hk=>?_⟩ (by simp only;omega))))))
   · obtain ⟨k,hk,e⟩:=zdg hy
     obtain ⟨b',_,_,e2⟩:=m5 k (by omega)
     rw [e] at e2
     rw [e2]
     simp only;omega
   · simp only
     rw [zdL]
     by_cases e:k=ms.length
     · rw [if_pos e]
       exact ⟨1+b,by omega,by omega,by rw [e,m3]⟩
     · rw [if_neg e];exact m5 k (by omega)
 have hi4:i=4:=by omega
 subst hi4
 refine zpp 5 (by omega) (fun j s=>s.1.length=4 * j∧s.2.length=4 * j∧zgj BurnOk (·.Source) s.1∧(∀ k,k<4 * j→(s.1.getD k default).Source=(k:Int)+10)∧∀ k,k<4 * j→(s.1.getD k default).Minutes.Lo≤s.2.getD k default∧s.2.getD k default≤(s.1.getD k default).Minutes.Hi) ⟨rfl,rfl,zjM,fun j hj=>absurd hj (Nat.not_lt_zero _),fun j hj=>absurd hj (Nat.not_lt_zero _)⟩ (fun j3 s K3 hj3 hI3 hK3=>?_)
 obtain ⟨us,ts⟩:=s
 obtain ⟨u1,u2,u3,u4,u5⟩:=hI3
 simp only at u1 u2 u3 u4 u5 ⊢
 refine zdb (fun hbb=>?_) (fun hbb=>zam ⟨rfl,?_⟩)
 · simp only [Bool.and_eq_true,decide_eq_true_eq] at hbb
   refine zan (by omega) (wp_bind (zea (by omega)) (fun p1 hp1=>zaf (by omega) (zan (by omega) ?_)))
   refine wp_bind (zea (by omega)) (fun p2 hp2=>zaf (by omega) (zaf (by omega) (zan (by omega) ?_)))
   refine wp_bind (zea (by omega)) (fun p3 hp3=>zaf (by omega) (zan (by omega) ?_))
   refine wp_bind (zea (by omega)) (fun p4 hp4=>zaf (by omega) ?_)
   have hN:NightW (1+(j3:Int)) (250+p1) p3 (900+p2) p4:=⟨by omega,by omega,by omega,by omega,by omega⟩
   refine wp_loop (fun s=>∃ i:Nat,s.1=(i:Int)+1∧i≤4∧s.2.1.length=4 * j3+i∧s.2.2.length=4 * j3+i∧zgj BurnOk (·.Source) s.2.1∧(∀ k,k<4 * j3+i→(s.2.1.getD k default).Source=(k:Int)+10)∧∀ k,k<4 * j3+i→(s.2.1.getD k default).Minutes.Lo≤s.2.2.getD k default∧s.2.2.getD k default≤(s.2.1.getD k default).Minutes.Hi) (fun s=>10 - s.1.toNat) (by simp only;omega) ⟨0,rfl,by omega,u1,u2,u3,u4,u5⟩ (fun s K4 hI4 hK4=>?_)
   obtain ⟨v,vs,vt⟩:=s
   obtain ⟨i,v1,v2,v3,v4,v5,v6,v7⟩:=hI4
   simp only at v1 v3 v4 v5 v6 v7 hK4 ⊢
   subst v1
   refine zbh (fun hi4=>?_) (fun hi4=>?_)
   · have hl:1≤(i:Int)+1∧(i:Int)+1≤4:=by omega
     refine zai (show zex ⟨[⟨1,1,0,⟨0,40⟩,⟨5,50⟩,1001,0,0,0⟩],[⟨1,1,1,1,4⟩]⟩ ((i:Int)+1) ⟨1+(j3:Int),⟨250+p1,250+p1+p3⟩,⟨900+p2,900+p2+p4⟩,⟨0,0⟩,0⟩ 0=_ from hBurns hl hN) ?_
     refine zai (show zew ⟨[⟨1,1,0,⟨0,40⟩,⟨5,50⟩,1001,0,0,0⟩],[⟨1,1,1,1,4⟩]⟩ ((i:Int)+1) ⟨1+(j3:Int),⟨250+p1,250+p1+p3⟩,⟨900+p2,900+p2+p4⟩,⟨0,0⟩,0⟩ 0=_ from hDuty hl hN) ?_
     simp only
     refine zax (by simp [-List.getD_eq_getElem?_getD];omega) (wp_bind (zlz h2) (fun q1 _=>zaf (by omega) (zaf (by omega) (wp_bind (zea (by omega)) (fun o1 ho1=>zaf (by omega) (zaf (by omega) ?_))))))
     refine wp_bind (zlz h2) (fun q2 _=>zaf (by omega) (zaf (by omega) (wp_bind (zea (by omega)) (fun o2 ho2=>zaf (by omega) (zaf (by omega) (zan (fun _=>by unfold inI;omega) ?_))))))
     refine zax (by rw [Bool.or_eq_false_iff,decide_eq_false_iff_not,decide_eq_false_iff_not];omega) (zaf (by omega) (zb0 (by simp [-List.getD_eq_getElem?_getD];omega) (zaf (by omega) (zb0 (by simp [-List.getD_eq_getElem?_getD];omega) (zaf (by omega) (hK4 _ ⟨i+1,by simp [-List.getD_eq_getElem?_getD],by omega,by simp [-List.getD_eq_getElem?_getD];omega,by simp [-List.getD_eq_getElem?_getD];omega,zkr v5 ⟨⟨by simp only;omega,by simp only;omega,by simp only;omega,by simp only;omega,.inl rfl⟩,by simp only;omega⟩ (fun y hy=>?_),fun k hk=>?_,fun k hk=>?_⟩ (by simp only;omega)))))))
     · obtain ⟨k,hk,e⟩:=zdg hy
       have:=v6 k (by omega)
       rw [e] at this
       simp only;omega
     · simp only
       rw [zdL]
       by_cases e:k=vs.length
       · rw [if_pos e];simp only;omega
       · rw [if_neg e];exact v6 k (by omega)
     · simp only
       rw [zdL,zdL]
       by_cases e:k=vs.length
       · rw [if_pos e,if_pos (by omega)];simp only;omega
       · rw [if_neg e,if_neg (by omega)];exact v7 k (by omega)
   · have hi4:i=4:=by omega
     subst hi4
     exact zaf (by omega) (hK3 _ (by omega) ⟨by simp only;omega,by simp only;omega,v5,fun k hk=>v6 k (by omega),fun k hk=>v7 k (by omega)⟩)
 · refine ⟨⟨by simp only;omega,by simp only;omega,by simp only;omega,by simp [-List.getD_eq_getElem?_getD],b3,m4,u3,zjM,fun k hk=>?_⟩,⟨by simp only;omega,fun k hk=>b5 k (by simp only at hk;omega),by simp only;omega,fun k hk=>u5 k (by simp only at hk;omega)⟩,rfl,m3,fun k hk=>?_⟩
   · obtain ⟨b,c1,c2,c3⟩:=m5 k (by simp only at hk;omega)
     refine ⟨b.toNat - 1,by simp only;omega,?_⟩
     have:=b4 (b.toNat - 1) (by omega)
     simp only
     rw [c3,this]
     simp only;omega
   · obtain ⟨b,c1,c2,c3⟩:=m5 k hk
     unfold mt
     simp only
     rw [c3]
     exact ⟨rfl,rfl,rfl,rfl⟩
theorem WinV.fit {w:Wear} {t:Lives} (h:WinV w t) {lamp night:Int} (hl:1≤lamp∧lamp≤4) (hn:0≤night):0≤Go.Sp.fit w lamp night 9:=by
 rcases zlS w lamp night 9 with ⟨_,h2⟩|⟨i,e,_⟩
 · obtain ⟨c1,c2,c3,c4⟩:=h.lamp (lamp.toNat - 1) (by omega)
   refine absurd ⟨?_,?_,?_⟩ (h2 (lamp.toNat - 1) (by rw [h.nm];omega))
   · rw [c1];omega
   · rw [c2];exact hn
   · rw [c3,c4];rfl
 · omega
end Go.Sp
end
/- Plain laws, TopHours: what the looks of a winter settle. No program in sight. -/
section
set_option linter.all false
namespace Go.Sp
open Go.Av
set_option maxRecDepth 100000
theorem zoO:zdy 20000=some true:=by kernel_rfl
structure HourV (w:Wear) (t:Lives) (n:Int) (L:List Look):Prop where
 ok:WearOk (zar w L)
 src:∀ l∈L,l.Source<n
 right:zjk w 9 t L
theorem HourV.rs {w:Wear} {t:Lives} {n:Int} {L:List Look} (h:HourV w t n L):zjk (zar w L) 9 t L:=fun l hl=>by rw [zrE];exact h.right l hl
theorem HourV.zrM {w:Wear} {t:Lives} {n:Int} {L:List Look} (h:HourV w t n L):zhB (zar w L) 9 t (allS (zar w L) 9):=zpD h.rs
theorem HourV.sound {w:Wear} {t:Lives} {n:Int} {L:List Look} (h:HourV w t n L) (ht:TrueT w t):zcp (zar w L) 9 (allS (zar w L) 9):=zmm h.ok (zn4 ht L) h.rs
theorem zrJ {w:Wear} {t:Lives} (h:WinV w t) (L:List Look) {P:List Int} {night:Int} (hl:1≤P.length∧P.length≤20) (hm:∀ i,i<P.length→1≤P.getD i default∧P.getD i default≤4) (hr:∀ i,0<i→i<P.length→P.getD (i - 1) default<P.getD i default) (hn:zaQ night):LotOk (zar w L) P night 9:=
 ⟨hl,fun i hi=>by have:=hm i hi;omega,hr,hn,⟨by omega,by omega⟩,fun i hi=>by rw [zhw];exact h.fit (hm i hi) hn.1⟩
theorem znc {w:Wear} {t:Lives} (h:WinV w t) {lamp night:Int} (hl:1≤lamp∧lamp≤4) (hn:0≤night):ziv w 9 t lamp night=tBad w 9 t (fit w lamp night 9).toNat night:=by
 have:=h.fit hl hn
 unfold ziv
 rw [if_neg (by omega)]
theorem zpv (w:Wear) (L:List Look) (known:Int) (t:Lives) (m:Nat) (night:Int):tBad (zar w L) known t m night=tBad w known t m night:=by
 unfold tBad
 have:tAge (zar w L) known t m (-1) night=tAge w known t m (-1) night:=zdj (fun i _=>zjK w L known m (-1) night i)
 rw [this]
 rfl
theorem zn1 {w:Wear} {t:Lives} (h:WinV w t) {L:List Look} {P:List Int} {night lamp:Int} (hl:1≤lamp∧lamp≤4) (hn:0≤night):lamp∈ziA (zar w L) 9 t P night↔lamp∈P∧ziv w 9 t lamp night=true:=by
 rw [zmi,znc h hl hn,zpv,zhw]
theorem HourV.push {w:Wear} {t:Lives} {n:Int} {L:List Look} (h:HourV w t n L) {x:Look} (hx:ziz x) (hs:n≤x.Source) (hl:L.length<60) (hb:x.Bad=ziv w 9 t x.Lamp x.Night) {fuel:Nat} (hf:100<fuel) {m:Int} (hm:x.Source<m):zb9 fuel (zar w L) x=some (zar w (L++[x]),0)∧HourV w t m (L++[x]):=by
 obtain ⟨h1,h2⟩:=zo6 h.ok hf hx (fun y hy=>by have:=h.src y hy;omega) hl
 refine ⟨h1,h2,fun l hl=>?_,fun l hl=>?_⟩
 · rcases List.mem_append.1 hl with hl|hl
   · have:=h.src l hl;omega
   · rw [List.mem_singleton] at hl;rw [hl];exact hm
 · rcases List.mem_append.1 hl with hl|hl
   · exact h.right l hl
   · rw [List.mem_singleton] at hl;rw [hl];exact hb
def P4:List Int:=[1,2,3,4]
theorem zlk {i:Nat} (hi:i<4):P4.getD i default=(i:Int)+1:=by
 match i,hi with
 | 0,_=>rfl
 | 1,_=>rfl
 | 2,_=>rfl
 | 3,_=>rfl
theorem zrW {w:Wear} {t:Lives} (h:WinV w t) (L:List Look):LotOk (zar w L) P4 5 9:=
 zrJ h L (by decide) (fun i hi=>by rw [zlk hi];have hi:i<4:=hi;omega) (fun i h0 hi=>by have hi:i<4:=hi;rw [zlk (by omega),zlk hi];omega) ⟨by omega,by omega⟩
theorem zpP (w:Wear) (P:List Int) (night known:Int):lotLo w P night known P.length=nLo w P night known (allS w known):=rfl
theorem zpQ (w:Wear) (P:List Int) (night known:Int):lotHi w P night known P.length=nHi w P night known (allS w known):=rfl
theorem zlv {w:Wear} {many:Int} {show_:Bool} {k:Nat→Int} (hC:LotC w P4 5 9 (allS w 9) show_ k) {T l:List Int} (hT:∀ i∈T,i∈dbt w P4 5 9 (allS w 9)) (hl:∀ x,x∈l↔∃ q∈T,x=P4.getD q.toNat default) (hn:need w P4 5 9 (allS w 9) show_ many≤(dcd w P4 5 9 (allS w 9) show_ T:Int)) :
 ((decide (zaw ⟨nLo (zar w (w.Looks++zbk 5 show_ l l.length)) P4 5 9 (allS (zar w (w.Looks++zbk 5 show_ l l.length)) 9),nHi (zar w (w.Looks++zbk 5 show_ l l.length)) P4 5 9 (allS (zar w (w.Looks++zbk 5 show_ l l.length)) 9)⟩ many=1) == show_) && !(decide (zaw ⟨nLo (zar w (w.Looks++zbk 5 show_ l l.length)) P4 5 9 (allS (zar w (w.Looks++zbk 5 show_ l l.length)) 9),nHi (zar w (w.Looks++zbk 5 show_ l l.length)) P4 5 9 (allS (zar w (w.Looks++zbk 5 show_ l l.length)) 9)⟩ many=0) == show_))=true:=by
 have hm:∀ m s,s∈allS (zar w (w.Looks++zbk 5 show_ l l.length)) 9 m↔s∈zco w P4 5 9 (allS w 9) show_ T m:=fun m s=>zjY hC.ok (by omega) hT hl
 rw [nLo_re hm,nHi_re hm]
 have hle:=nLo_le (w:=w) (P:=P4) (night:=5) (known:=9) (S:=zco w P4 5 9 (allS w 9) show_ T)
 cases show_ with
 | true=>
  rw [zkb] at hn
  have:=hC.zra hT
  have c1:zaw ⟨nLo w P4 5 9 (zco w P4 5 9 (allS w 9) true T),nHi w P4 5 9 (zco w P4 5 9 (allS w 9) true T)⟩ many=1:=zi0.2 (by simp only;omega)
  rw [c1];rfl
 | false=>
  rw [zlB] at hn
  have:=hC.zr9 hT
  have c0:zaw ⟨nLo w P4 5 9 (zco w P4 5 9 (allS w 9) false T),nHi w P4 5 9 (zco w P4 5 9 (allS w 9) false T)⟩ many=0:=zi1.2 ⟨by simp only;omega,by simp only;omega⟩
  rw [c0];rfl
theorem zpJ {P:Unit→Prop} (h:P ()):Wp (isTrue true) P:=⟨(),rfl,h⟩
theorem zlp (x:gasoliertop_Winter) (h1:x.Batch.length≤4611686018427387904) (h2:x.Burnt.length≤4611686018427387904) (h3:x.Lives.length≤4611686018427387904) (h4:x.Nights.length≤4611686018427387904) (h5:x.Looks.length≤4611686018427387904):zcF 1000 x=some true:=by
 refine zoN ?_
 unfold zcl
 refine zai zoO (wp_bind (zpt (by omega) x h1 h2 h3 h4) (fun z hz=>?_))
 obtain ⟨w,t,b⟩:=z
 obtain ⟨hb,hw⟩:=hz
 simp only at hb hw ⊢
 subst hb
 have V0:=hw.ok
 have hkn:zaQ 9:=⟨by omega,by omega⟩
 have h0:HourV w t 90 []:=by
  have e:zar w []=w:=by
   have:=hw.looks
   obtain ⟨a,b,c,d⟩:=w
   simp only at this
   subst this;rfl
  exact ⟨by rw [e];exact V0,fun l hl=>(by cases hl),fun l hl=>(by cases hl)⟩
 have e0:zar w []=w:=by
  have:=hw.looks
  obtain ⟨a,b,c,d⟩:=w
  simp only at this
  subst this;rfl
 have hS0:zhB w 9 t (allS w 9):=by have:=h0.zrM;rw [e0] at this;exact this
 refine zhZ rfl (zfH V0) (zhZ rfl (zjh V0 (by omega) hkn hw.tr hS0) (zax rfl ?_))
 refine zpp 6 (by omega) (fun i s=>∃ L,s=zar w L∧L.length=i∧HourV w t (90+(i:Int)) L) ⟨[],e0.symm,rfl,by rw [show (90:Int)+((0:Nat):Int)=90 by omega];exact h0⟩ (fun i s K hi hI hK=>?_)
 obtain ⟨L,rfl,hLl,hH⟩:=hI
 have V:=hH.ok
 have hT:=zn4 hw.tr L
 have hS:=hH.zrM
 refine zdb (fun hc=>?_) (fun hc=>?_)
 · simp only [Bool.and_eq_true,decide_eq_true_eq] at hc
   refine zan (by omega) (wp_bind (zea (by omega)) (fun a ha=>zaf (by omega) (zan (by omega) (wp_bind (zea (by omega)) (fun nn hnn=>?_)))))
   have hni:zaQ nn:=⟨by omega,by omega⟩
   have hl14:1≤1+a∧1+a≤4:=by omega
   have hP1:LotOk (zar w L) [1+a] nn 9:=zrJ hw L (by simp [-List.getD_eq_getElem?_getD]) (fun j hj=>by
    have:j=0:=by simpa [-List.getD_eq_getElem?_getD] using hj
    subst this;exact hl14) (fun j j0 hj=>by simp [-List.getD_eq_getElem?_getD] at hj;omega) hni
   refine zai (zpr V (by omega) hP1 hT hS) (zaf (by omega) ?_)
   have hbad:decide (0<(((ziA (zar w L) 9 t [1+a] nn).length:Nat):Int))=ziv w 9 t (1+a) nn:=by
    have hm:=zn1 hw (L:=L) (P:=[1+a]) hl14 hni.1
    cases hbb:ziv w 9 t (1+a) nn with
    | true=>
     have:=List.length_pos_of_mem (hm.2 ⟨List.mem_singleton.2 rfl,hbb⟩)
     rw [decide_eq_true_eq];omega
    | false=>
     rw [decide_eq_false_iff_not]
     intro hp
     have hp':0<(ziA (zar w L) 9 t [1+a] nn).length:=by omega
     have hmm:=za4 (l:=ziA (zar w L) 9 t [1+a] nn) hp'
     have h7:=(zmi.1 hmm).1
     rw [List.mem_singleton] at h7
     rw [h7] at hmm
     rw [(hm.1 hmm).2] at hbb;cases hbb
   simp only
   rw [hbad]
   obtain ⟨k1,k2⟩:=hH.push (x:=⟨90+(i:Int),1+a,nn,ziv w 9 t (1+a) nn,0,0⟩) ⟨by simp only;omega,by simp only;omega,by simp only;omega,by simp only;omega,.inl rfl⟩ (Int.le_refl _) (by omega) rfl (fuel:=1000) (by omega) (m:=90+((i+1:Nat):Int)) (by simp only;omega)
   exact zai k1 (zax rfl (zaf (by omega) (hK _ (by omega) ⟨_,rfl,by simp [-List.getD_eq_getElem?_getD,hLl],k2⟩)))
 have hs:=hH.sound hw.tr
 have hP:=zrW hw L
 obtain ⟨b,b1,b2⟩:=zp2 V.fits (fuel:=1000) (by omega) 9
 obtain ⟨s0,s1⟩:=b2.ok V hkn
 refine zai b1 (zai (show zdW 1000 (zar w L) t [1,2,3,4] 5 9=some (ziA (zar w L) 9 t P4 5,0) from zpr V (by omega) hP hT hS) (zai (show ze2 1000 (zar w L) [1,2,3,4] 5 9=some (⟨lotLo (zar w L) P4 5 9 P4.length,lotHi (zar w L) P4 5 9 P4.length⟩,0) from zse V (by omega) hP hs) (wp_bind (zea (by omega)) (fun many hmany=>zai (show zcQ 1000 (zar w L) [1,2,3,4] 5 9 many=some (zaw ⟨nLo (zar w L) P4 5 9 (allS (zar w L) 9),nHi (zar w L) P4 5 9 (allS (zar w L) 9)⟩ many,0) from zmD V (by omega) hP hs (by omega)) ?_))))
 rw [s0,s1.2 hs]
 refine zhZ rfl (zjh V (by omega) hkn hT hS) ?_
 have hwi:=znh V hT hP hS
 rw [zpP,zpQ] at hwi
 rw [zpP,zpQ]
 have hwm:∀ lamp:Int,1≤lamp∧lamp≤4→(lamp∈ziA (zar w L) 9 t P4 5↔ziv w 9 t lamp 5=true):=fun lamp hl=>by
  rw [zn1 hw hl (by omega)]
  refine ⟨fun h=>h.2,fun h=>⟨?_,h⟩⟩
  have:P4.getD (lamp.toNat - 1) default=lamp:=by rw [zlk (by omega)];omega
  rw [← this]
  exact za4 (by have:P4.length=4:=rfl;omega)
 generalize hbl:ziA (zar w L) 9 t P4 5=bad at hwi hwm ⊢
 have hcl1:=zi0 (r:=⟨nLo (zar w L) P4 5 9 (allS (zar w L) 9),nHi (zar w L) P4 5 9 (allS (zar w L) 9)⟩) (many:=many)
 have hcl0:=zi1 (r:=⟨nLo (zar w L) P4 5 9 (allS (zar w L) 9),nHi (zar w L) P4 5 9 (allS (zar w L) 9)⟩) (many:=many)
 simp only at hcl1 hcl0 ⊢
 refine zax ?_ ?_
 · simp only [decide_true,Bool.not_true,Bool.or_self,Bool.false_or,Bool.or_eq_false_iff,Bool.and_eq_false_iff,decide_eq_false_iff_not]
   refine ⟨⟨⟨by omega,by omega⟩,?_⟩,?_⟩
   · by_cases h:zaw ⟨nLo (zar w L) P4 5 9 (allS (zar w L) 9),nHi (zar w L) P4 5 9 (allS (zar w L) 9)⟩ many=1
     · have:=hcl1.1 h;exact .inr (by omega)
     · exact .inl h
   · by_cases h:zaw ⟨nLo (zar w L) P4 5 9 (allS (zar w L) 9),nHi (zar w L) P4 5 9 (allS (zar w L) 9)⟩ many=0
     · have:=hcl0.1 h;exact .inr (by omega)
     · exact .inl h
 refine zd7 (fun _=>True) (fun j K2 hj _ hK2=>?_) (fun _=>?_)
 · have hj4:j<4:=hj
   have hPj:P4.getD j default=(j:Int)+1:=zlk hj4
   have eP:([1,2,3,4]:List Int).getD j default=P4.getD j default:=rfl
   rw [eP]
   have l1:=hP.lamp j hj
   have f1:=hP.fits j hj
   have hlt:=zkp (zar w L) (P4.getD j default) 5 9
   have le1:zcY (zar w L) (P4.getD j default) 5 9=0:=zmI l1 ⟨⟨by omega,by omega⟩,hkn⟩ (by omega)
   refine zai (zp1 V (by omega) _ _ _) ?_
   rw [zmk le1 hs]
   have hst:=zkV V hT hS (m:=(fit (zar w L) (P4.getD j default) 5 9).toNat) (by omega) 5
   have hmem:P4.getD j default∈bad↔tBad (zar w L) 9 t (fit (zar w L) (P4.getD j default) 5 9).toNat 5=true:=by
    rw [hwm _ (by rw [hPj];omega),znc hw (by rw [hPj];omega) (by omega),zpv,zhw]
   generalize stateR (zar w L) 9 (allS (zar w L) 9) (fit (zar w L) (P4.getD j default) 5 9).toNat 5=st at hst ⊢
   refine zjP (fun _=>znG _ _) (fun y43 h43=>zjP (fun _=>znG _ _) (fun y45 h45=>?_))
   simp only [decide_true,Bool.not_true,Bool.not_false,Bool.true_and,Bool.false_or,decide_eq_true_eq] at h43 h45 ⊢
   refine zax ?_ (hK2 trivial)
   rw [Bool.or_eq_false_iff,Bool.and_eq_false_iff,Bool.and_eq_false_iff,decide_eq_false_iff_not,decide_eq_false_iff_not]
   by_cases s1:st=1
   · have:=(h43 s1).2 (hmem.2 (hst.1 s1))
     exact ⟨.inr (by rw [this];rfl),.inl (by omega)⟩
   · refine ⟨.inl s1,?_⟩
     by_cases s0:st=0
     · refine .inr ?_
       have:=h45 (by rw [s0];rfl)
       cases hy:y45 with
       | false=>rfl
       | true=>
        have h5:=hmem.1 (this.1 hy)
        rw [hst.2 s0] at h5;cases h5
     · exact .inl s0
 have eshow:(decide (many<((bad.length:Nat):Int)))=true↔many<(bad.length:Int):=decide_eq_true_iff
 generalize decide (many<((bad.length:Nat):Int))=show_ at eshow ⊢
 obtain ⟨kk,hC⟩:=zsf V hP hs show_
 have hcond:((show_ && decide (zaw ⟨nLo (zar w L) P4 5 9 (allS (zar w L) 9),nHi (zar w L) P4 5 9 (allS (zar w L) 9)⟩ many=0)) || (!show_ && decide (zaw ⟨nLo (zar w L) P4 5 9 (allS (zar w L) 9),nHi (zar w L) P4 5 9 (allS (zar w L) 9)⟩ many=1)))=false:=by
  rw [Bool.or_eq_false_iff,Bool.and_eq_false_iff,Bool.and_eq_false_iff,decide_eq_false_iff_not,decide_eq_false_iff_not]
  cases show_ with
  | true=>
   have:=eshow.1 rfl
   refine ⟨.inr (fun h=>?_),.inl rfl⟩
   have:=hcl0.1 h;omega
  | false=>
   have:¬ many<(bad.length:Int):=fun h=>by cases eshow.2 h
   refine ⟨.inl rfl,.inr (fun h=>?_)⟩
   have:=hcl1.1 h;omega
 obtain ⟨⟨T0,hT0,hn0⟩,_⟩:=zph hC hcond
 refine zpx (P:=P4) hC (by omega) (by omega) (fun y hy=>?_)
 rcases hy with ⟨e,hrise,T,hTs,hTl,hTm,hn,hmin⟩|⟨_,_,hno⟩
 rotate_left
 · exact absurd hn0 (hno T0 hT0)
 obtain ⟨l,e2⟩:=y
 simp only at e hrise hTl hTm ⊢
 subst e
 have hDl:∀ x∈l,∃ q∈dbt (zar w L) P4 5 9 (allS (zar w L) 9),x=P4.getD q.toNat default:=fun x hx=>by
  obtain ⟨q,hq,e⟩:=(hTm x).1 hx
  exact ⟨q,hTs.mem q hq,e⟩
 have hT20:=hTs.znC hP
 have hl4:∀ x∈l,1≤x∧x≤4:=fun x hx=>by
  obtain ⟨q,hq,e⟩:=hDl x hx
  obtain ⟨a,rfl,ha⟩:=zge hq
  have ha:a<4:=ha
  rw [e,Int.toNat_natCast,zlk ha];omega
 refine zjP (Q:=fun z=>z=0) (fun _=>?_) (fun z hz=>?_)
 · obtain ⟨v,v1,T',t1,t2,t3,t4,t5⟩:=zkM hC (fuel:=1000) (by omega) (many:=many) (by omega) hrise hDl
   refine ⟨v,v1,t4 ?_⟩
   rw [hC.same t1.mem hTs.mem (fun q=>?_)]
   · exact hn
   · rw [t3,hTm]
     constructor
     · rintro ⟨a1,q',a2,a3⟩
       rw [zlH hP a1 (hTs.mem q' a2) a3];exact a2
     · intro a1
       exact ⟨hTs.mem q a1,q,a1,rfl⟩
 have hz0:=hz rfl
 subst hz0
 refine zax rfl ?_
 refine za9 (fun i s=>s=zar w (L++zbk 5 show_ l i)∧HourV w t (200+(i:Int)) (L++zbk 5 show_ l i)) ⟨by unfold zbk;simp [-List.getD_eq_getElem?_getD],?_⟩ (fun i s K2 hi2 hI2 hK2=>?_) (fun s hs2=>?_)
 · unfold zbk
   rw [List.range_zero,List.map_nil,List.append_nil]
   exact ⟨hH.ok,fun l hl=>by have:=hH.src l hl;omega,hH.right⟩
 · obtain ⟨rfl,hI2⟩:=hI2
   have hg:=hl4 _ (za4 hi2)
   obtain ⟨v,v1,v2⟩:=znG bad (l.getD i default)
   refine zai v1 (zdb (fun _=>zpJ trivial) (fun hc=>zaf (by omega) ?_))
   have hv:v=show_:=by simpa [-List.getD_eq_getElem?_getD] using hc
   have hbb:ziv w 9 t (l.getD i default) 5=show_:=by
    rw [← hv,Bool.eq_iff_iff,v2,hwm _ hg]
   have hln:(L++zbk 5 show_ l i).length<60:=by
    unfold zbk
    rw [List.length_append,List.length_map,List.length_range]
    omega
   obtain ⟨k1,k2⟩:=hI2.push (x:=zfr 5 show_ i (l.getD i default)) ⟨by unfold zfr;simp only;omega,by unfold zfr;simp only;omega,by unfold zfr;simp only;omega,by unfold zfr;simp only;omega,.inl rfl⟩ (Int.le_refl _) hln hbb.symm (fuel:=1000) (by omega) (m:=200+((i+1:Nat):Int)) (by unfold zfr;simp only;omega)
   rw [List.append_assoc,← zlw] at k1 k2
   exact zai (show zb9 1000 _ ⟨200+(i:Int),l.getD i default,5,show_,0,0⟩=_ from k1) (zax rfl (hK2 _ ⟨rfl,k2⟩))
 · obtain ⟨rfl,hs3⟩:=hs2
   have hP3:=zrW hw (L++zbk 5 show_ l l.length)
   refine zai (show zcQ 1000 (zar w (L++zbk 5 show_ l l.length)) [1,2,3,4] 5 9 many=_ from zmD hs3.ok (by omega) hP3 (hs3.sound hw.tr) (by omega)) ?_
   have:=zlv hC hTs.mem hTm hn
   have e5:zar (zar w L) ((zar w L).Looks++zbk 5 show_ l l.length)=zar w (L++zbk 5 show_ l l.length):=rfl
   rw [e5] at this
   simp only [decide_true,Bool.true_and]
   rw [this]
   exact zpJ trivial
end Go.Sp
end
