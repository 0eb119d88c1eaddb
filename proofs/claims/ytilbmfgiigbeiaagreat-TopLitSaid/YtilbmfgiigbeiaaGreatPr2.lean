/- Texts of the framework, or of the plain law, one behind another. -/
import Derived.Test.YtilbmfgiigbeiaaGreatPr1
/- Plain laws, crew: CrewTime. No program in sight. -/
section
set_option linter.all false
namespace Go.Sp
open Go.Av
set_option maxRecDepth 100000
theorem mod_eq (n:Int) {m:Int} (h0:0<m) (h1:m≤1000000000000000000):∃ y,zas n m=some y∧0≤y∧y<m:=by
 have a1 : -m<Int.tmod n m:=Int.lt_tmod_of_pos n h0
 have a2:Int.tmod n m<m:=Int.tmod_lt_of_pos n h0
 unfold zas
 refine ⟨_,(zdd (by omega) _).trans ((zdd (by unfold inI;omega) _).trans (zdd (by omega) _)),?_,Int.tmod_lt_of_pos _ h0⟩
 exact Int.tmod_nonneg _ (by omega)
section
variable {c:Crew} {ls:List (List Int)}
def rg (c:Crew) (r:List Int) (k:Nat):Range:=tv c.Travel (tk c (rk r k)).Place.toNat (tk c (rk r (k+1))).Place.toNat
structure WalkOf (c:Crew) (more:Int) (r w:List Int):Prop where
 len:w.length=r.length - 1
 lo:more≤0→∀ k,k<w.length→(rg c r k).Lo≤w.getD k default∧w.getD k default≤(rg c r k).Hi
 hi:0<more→∃ q:Nat,∀ k,k<w.length→w.getD k default=if k=q then min 600 ((rg c r k).Hi+more) else (rg c r k).Hi
theorem zoU (c:Crew) (r:List Int):∀ k (o:Int),(∀ j,j<k→0≤gap c Range.Hi (rk r j) (rk r (j+1)))→(∀ j,j<k→slr c r k o≤gap c Range.Hi (rk r j) (rk r (j+1)))∧(0≤o→slr c r k o≤o)∧(0≤o∨0<k→0≤slr c r k o)∧(k=0→slr c r k o=o)
 | 0,o,_=>⟨fun j hj=>by omega,fun _=>Int.le_refl _,fun h=>by rcases h with h|h;exact h;omega,fun _=>rfl⟩
 | k+1,o,hg=>by
  obtain ⟨i1,i2,i3,i4⟩:=zoU c r k o (fun j hj=>hg j (by omega))
  have h0:=hg k (by omega)
  have e:slr c r (k+1) o=upd1 (slr c r k o) (gap c Range.Hi (rk r k) (rk r (k+1))):=rfl
  rw [e]
  unfold upd1
  generalize hx:slr c r k o=x at i1 i2 i3 i4 ⊢
  split <;> rename_i hc
  · refine ⟨fun j hj=>?_,fun ho=>?_,fun _=>h0,fun h=>by omega⟩
    · by_cases ej:j=k
      · subst ej;exact Int.le_refl _
      · have:=i1 j (by omega)
        have:=i3 (.inr (by omega))
        rcases hc with hc|hc <;> omega
    · have:=i2 ho
      have:=i3 (.inl ho)
      rcases hc with hc|hc <;> omega
  · refine ⟨fun j hj=>?_,fun ho=>i2 ho,fun _=>by omega,fun h=>by omega⟩
    by_cases ej:j=k
    · subst ej;omega
    · exact i1 j (by omega)
theorem zhs {r:List Int} (R:IsRound (fol c Range.Hi) c.Tasks.length r) {j:Nat} (hj:j+1<r.length):0≤gap c Range.Hi (rk r j) (rk r (j+1)):=by
 have:=R.link (j+1) (by omega) hj
 rw [show j+1 - 1=j by omega] at this
 exact this.2.2
theorem slo_le (A:AreRounds (fol c Range.Hi) c.Tasks.length ls):∀ i,i≤ls.length→(∀ i',i'<i→∀ j,j+1<(rd ls i').length→slo c ls i≤gap c Range.Hi (rk (rd ls i') j) (rk (rd ls i') (j+1))) ∧ -1≤slo c ls i∧(slo c ls i<0→∀ i',i'<i→(rd ls i').length=1)∧((∀ i',i'<i→(rd ls i').length=1)→slo c ls i = -1)
 | 0,_=>⟨fun i' h=>by omega,by unfold slo;omega,fun _ i' h=>by omega,fun _=>rfl⟩
 | i+1,hi=>by
  obtain ⟨h1,h2,h3,h4⟩:=slo_le A i (by omega)
  have R:=A.round i (by omega)
  have hne:=R.ne
  obtain ⟨g1,g2,g3,g4⟩:=zoU c (rd ls i) ((rd ls i).length - 1) (slo c ls i) (fun j hj=>zhs R (by omega))
  have e:slo c ls (i+1)=slr c (rd ls i) ((rd ls i).length - 1) (slo c ls i):=rfl
  rw [e]
  refine ⟨fun i' hi' j hj=>?_,?_,fun hneg i' hi'=>?_,fun hall=>by rw [g4 (by have:=hall i (by omega);omega)];exact h4 (fun i' hi'=>hall i' (by omega))⟩
  · by_cases ei:i'=i
    · subst ei;exact g1 j (by omega)
    · have:=h1 i' (by omega) j hj
      by_cases h0:0≤slo c ls i
      · have:=g2 h0;omega
      · have:=h3 (by omega) i' (by omega);omega
  · by_cases h0:0≤slo c ls i∨0<(rd ls i).length - 1
    · have:=g3 h0;omega
    · have:=g4 (by omega);omega
  · by_cases h0:0≤slo c ls i∨0<(rd ls i).length - 1
    · have:=g3 h0;omega
    · by_cases ei:i'=i
      · subst ei;omega
      · exact h3 (by omega) i' (by omega)
theorem zni (V:Valid c) {r w:List Int} {more:Int} (R:IsRound (fol c Range.Hi) c.Tasks.length r) (W:WalkOf c more r w) (hg:∀ j,j+1<r.length→more≤gap c Range.Hi (rk r j) (rk r (j+1))):∀ k,k<r.length→atk c r w k=(tk c (rk r k)).At∧ltr c r w k=[]
 | 0,_=>⟨rfl,rfl⟩
 | k+1,hk=>by
  obtain ⟨h1,h2⟩:=zni V R W hg k (by omega)
  have h0:=zhs R hk
  have h3:=hg k hk
  have hw:w.getD k default≤(rg c r k).Hi∨w.getD k default≤(rg c r k).Hi+more:=by
   by_cases hm:more≤0
   · exact .inl (W.lo hm k (by rw [W.len];omega)).2
   · obtain ⟨q,hq⟩:=W.hi (by omega)
     have:=hq k (by rw [W.len];omega)
     rw [this]
     split
     · right;omega
     · left;omega
  have hle:thr c r w k≤(tk c (rk r (k+1))).At:=by
   unfold thr
   rw [h1]
   unfold gap at h0 h3
   have e:(tv c.Travel (tk c (rk r k)).Place.toNat (tk c (rk r (k+1))).Place.toNat).Hi=(rg c r k).Hi:=rfl
   rw [e] at h0 h3
   rcases hw with hw|hw <;> omega
  refine ⟨by rw [zoN];omega,?_⟩
  show ltr c r w k++_=[]
  rw [h2,if_neg (by omega)];rfl
theorem zhI (V:Valid c) {ws:List (List Int)} {more:Int} (A:AreRounds (fol c Range.Hi) c.Tasks.length ls) (W:∀ k,k<ls.length→WalkOf c more (rd ls k) (rd ws k)) (hg:∀ i,i<ls.length→∀ j,j+1<(rd ls i).length→more≤gap c Range.Hi (rk (rd ls i) j) (rk (rd ls i) (j+1))):∀ i,i≤ls.length→lta c ls ws i=[]
 | 0,_=>rfl
 | i+1,hi=>by
  have hne:=(A.round i (by omega)).ne
  show lta c ls ws i++_=[]
  rw [zhI V A W hg i (by omega),(zni V (A.round i (by omega)) (W i (by omega)) (hg i (by omega)) _ (by omega)).2];rfl
theorem zpe (V:Valid c) {ws:List (List Int)} {more:Int} (A:AreRounds (fol c Range.Hi) c.Tasks.length ls) (hl:ws.length=ls.length) (W:∀ k,k<ls.length→WalkOf c more (rd ls k) (rd ws k)):WalksOk ls ws:=by
 refine ⟨hl,fun k hk=>(W k hk).len,fun k hk m hm=>?_⟩
 have R:=A.round k hk
 have hlen:=(W k hk).len
 obtain ⟨q1,q2⟩:=R.rk (show m<(rd ls k).length by omega)
 obtain ⟨q3,q4⟩:=R.rk (show m+1<(rd ls k).length by omega)
 have hr:0≤(rg c (rd ls k) m).Lo∧(rg c (rd ls k) m).Lo≤(rg c (rd ls k) m).Hi∧(rg c (rd ls k) m).Hi≤600:=V.travel.rng _ _ (V.place q2).2.1 (V.place q4).2.1
 by_cases hm0:more≤0
 · have:=(W k hk).lo hm0 m hm;omega
 · obtain ⟨q,hq⟩:=(W k hk).hi (by omega)
   rw [hq m hm]
   split <;> omega
end
end Go.Sp
end
/- Plain laws, TopLit: the chart of three places, its matrix, what is truly walked. No program in sight. -/
section
set_option linter.all false
namespace Go.Sp
open Go.Av
set_option maxRecDepth 100000
def toP (k:Nat):Nat:=if k % 2<k / 2 then k % 2 else k % 2+1
structure TWay (k:Nat) (w:Way) (t:Int):Prop where
 src:w.From=((k / 2:Nat):Int)
 dst:w.To=((toP k:Nat):Int)
 rng:1≤w.Takes.Lo∧w.Takes.Lo≤t∧t≤w.Takes.Hi∧w.Takes.Hi≤34
 opn:w.Open=⟨0,1439⟩
 evr:w.Every=0
structure TChart (c:Chart) (T:List Int):Prop where
 pl:c.Places=3
 wl:c.Ways.length=6
 tl:T.length=6
 ok:∀ k,k<6→TWay k (way c k) (Tl T k)
def cnt (a j:Nat):Nat:=if j≤a then j else j - 1
theorem zmB {fuel:Nat} (hf:5≤fuel) (x:gasoliertop_Town) (hx:x.Ways.length≤1000000000000000000):Wp (zbD fuel x) (fun r=>TChart r.1 r.2):=by
 unfold zbD
 refine zlu 3 (by omega) (fun i s=>s.1.length=2 * i∧s.2.length=2 * i∧∀ k,k<2 * i→TWay k (s.2.getD k default) (s.1.getD k default)) ⟨rfl,rfl,fun k hk=>by omega⟩ (fun i s K hi hI hK=>?_)
 obtain ⟨T,W⟩:=s
 obtain ⟨h1,h2,h3⟩:=hI
 dsimp only at h1 h2 h3 hK ⊢
 refine zcA (fun hlt=>?_) (fun hge=>zap ?_)
 rotate_left
 · have:i=3:=by omega
   subst this
   exact ⟨rfl,h2,h1,h3⟩
 have hi3:i<3:=by omega
 refine zlu 3 (by omega) (fun j s=>s.1.length=2 * i+cnt i j∧s.2.length=2 * i+cnt i j∧∀ k,k<2 * i+cnt i j→TWay k (s.2.getD k default) (s.1.getD k default)) ⟨by unfold cnt;simp [h1],by unfold cnt;simp [h2],fun k hk=>h3 k (by unfold cnt at hk;simpa using hk)⟩ (fun j s K2 hj hJ hK2=>?_)
 obtain ⟨T2,W2⟩:=s
 obtain ⟨g1,g2,g3⟩:=hJ
 dsimp only at g1 g2 g3 hK2 ⊢
 refine zcA (fun hlt2=>?_) (fun hge2=>?_)
 rotate_left
 · have:j=3:=by omega
   subst this
   have e:cnt i 3=2:=by unfold cnt;rw [if_neg (by omega)]
   rw [e] at g1 g2 g3
   exact zat (by omega) (hK _ hi3 ⟨by dsimp only;omega,by dsimp only;omega,fun k hk=>g3 k (by omega)⟩)
 have hj3:j<3:=by omega
 have hc:cnt i j≤2:=by unfold cnt;split <;> omega
 refine ziO ?_
 refine zcA (fun he=>?_) (fun he=>?_)
 · have e:cnt i (j+1)=cnt i j:=by unfold cnt;rw [if_neg (by omega),if_pos (by omega)];omega
   rw [e] at hK2
   exact zat (by omega) (hK2 _ hj3 ⟨g1,g2,g3⟩)
 have hne:j≠i:=by omega
 have e:cnt i (j+1)=cnt i j+1:=by unfold cnt;split <;> split <;> omega
 refine ziO ?_
 -- whatever numbers there are
 have rest:∀ n:Arr3 Int,Wp (zar (zas n.x0 20) fun y9=>must (inI (1+y9)) <| zar (zas n.x1 15) fun y12=>must (inI ((1+y9)+y12)) <| must (room (W2++([(⟨(i:Int),(j:Int),(⟨(1+y9),((1+y9)+y12)⟩:Range),(⟨0,1439⟩:Range),0⟩:Way)]:List Way)).length 56) <| must (inI (y12+1)) <| zar (zas n.x2 (y12+1)) fun y17=>must (inI ((1+y9)+y17)) <| must (room (T2++([((1+y9)+y17)]:List Int)).length 8) <| must (inI ((j:Int)+1)) <| K2 ((j:Int)+1,(T2++([((1+y9)+y17)]:List Int)),(W2++([(⟨(i:Int),(j:Int),(⟨(1+y9),((1+y9)+y12)⟩:Range),(⟨0,1439⟩:Range),0⟩:Way)]:List Way)))) (fun r=>TChart r.1 r.2):=fun n=>by
  obtain ⟨u,eu,u0,u1⟩:=mod_eq n.x0 (m:=20) (by omega) (by omega)
  obtain ⟨v,ev,v0,v1⟩:=mod_eq n.x1 (m:=15) (by omega) (by omega)
  obtain ⟨z,ez,z0,z1⟩:=mod_eq n.x2 (m:=v+1) (by omega) (by omega)
  refine zaq eu (zat (by omega) (zaq ev (zat (by omega) (ze7 (by rw [List.length_append,List.length_singleton];omega) (zat (by omega) (zaq ez (zat (by omega) (ze7 (by rw [List.length_append,List.length_singleton];omega) (zat (by omega) (hK2 _ hj3 ⟨?_,?_,fun k hk=>?_⟩))))))))))
  · rw [List.length_append,List.length_singleton];omega
  · rw [List.length_append,List.length_singleton];omega
  · dsimp only
    rw [zee,zee]
    by_cases hk2:k=2 * i+cnt i j
    · rw [if_pos (by omega),if_pos (by omega)]
      have hk3:k / 2=i∧toP k=j:=by
       unfold cnt at hk2 hc e
       unfold toP
       split at hk2
       · refine ⟨by omega,?_⟩
         rw [if_pos (by omega)];omega
       · refine ⟨by omega,?_⟩
         rw [if_neg (by omega)];omega
      refine ⟨by rw [hk3.1],by rw [hk3.2],⟨by dsimp only;omega,by dsimp only;omega,by dsimp only;omega,by dsimp only;omega⟩,rfl,rfl⟩
    · rw [if_neg (by omega),if_neg (by omega)]
      exact g3 k (by omega)
 refine zcA (fun hw=>?_) (fun hw=>rest _)
 have hw:0<x.Ways.length:=by omega
 have em:Int.tmod ((T2.length:Nat):Int) ((x.Ways.length:Nat):Int)=((T2.length % x.Ways.length:Nat):Int):=by
  exact (Int.ofNat_tmod _ _).symm
 rw [em]
 have hlt3:=Nat.mod_lt T2.length hw
 exact zae (by omega) (zae (by omega) (rest _))
section
variable {c:Chart} {T:List Int}
theorem zfK (H:TChart c T):valid c=true:=by
 refine zdi.2 ⟨by rw [H.pl];decide,by rw [H.wl];omega,fun w hw=>?_⟩
 obtain ⟨k,hk,e⟩:=zbK hw
 rw [H.wl] at hk
 have G:=H.ok k hk
 have e:way c k=w:=e
 rw [e] at G
 have h1:=G.src;have h2:=G.dst;have h3:=G.rng;have h4:=G.opn;have h5:=G.evr
 have h6:toP k≤2∧toP k≠k / 2:=by unfold toP;split <;> omega
 unfold za2 zcH zby zaB
 rw [h4,h5,H.pl]
 have a1:decide (0≤w.From)=true:=decide_eq_true (by omega)
 have a2:decide (w.From≤11)=true:=decide_eq_true (by omega)
 have a3:decide (0≤w.To)=true:=decide_eq_true (by omega)
 have a4:decide (w.To≤11)=true:=decide_eq_true (by omega)
 have a5:decide (w.From=w.To)=false:=decide_eq_false (by omega)
 have a6:decide (1≤w.Takes.Lo)=true:=decide_eq_true (by omega)
 have a7:decide (w.Takes.Lo≤w.Takes.Hi)=true:=decide_eq_true (by omega)
 have a8:decide (w.Takes.Hi≤600)=true:=decide_eq_true (by omega)
 have a9:decide (w.From<3)=true:=decide_eq_true (by omega)
 have a10:decide (w.To<3)=true:=decide_eq_true (by omega)
 rw [a1,a2,a3,a4,a5,a6,a7,a8,a9,a10]
 rfl
theorem zfh (H:TChart c T):isTk c T=true:=zi2.2 ⟨by rw [H.tl,H.wl],fun i hi=>by have:=(H.ok i (by rw [← H.wl];exact hi)).rng;omega⟩
theorem zkj (H:TChart c T):∀ i,i<c.Ways.length→alw (way c i)=true:=fun i hi=>by
 have G:=H.ok i (by rw [← H.wl];exact hi)
 exact znX.2 ⟨G.evr,by rw [G.opn],by rw [G.opn]⟩
theorem Wk.mono {U V:Nat→Int} {s:Nat} (hUV:∀ i,i<c.Ways.length→U i≤V i) {p:Nat} {x:Int} (h:Wk c V s p x):∃ y,y≤x∧Wk c U s p y:=by
 induction h with
 | nil=>exact ⟨0,Int.le_refl _,.nil⟩
 | snoc p x i _ hi ha hf ih=>
  obtain ⟨y,h1,h2⟩:=ih
  exact ⟨y+U i,by have:=hUV i hi;omega,.snoc p y i h2 hi ha hf⟩
theorem zl2 {U V:Nat→Int} (N:Net c U) (hUV:∀ i,i<c.Ways.length→U i≤V i) {p q:Nat} (hp:p<c.Places.toNat) (h:0≤dst c V p q):dst c U p q≤dst c V p q:=by
 obtain ⟨y,h1,h2⟩:=(zo8 p q h).mono hUV
 have:=(h2.le N hp).2.2
 omega
theorem zf6 (H:TChart c T) {U:Nat→Int} (N:Net c U) (hU:∀ i,i<6→U i≤34) {p q:Nat} (hp:p<3) (hq:q<3):0≤dst c U p q∧dst c U p q≤34:=by
 have hP:c.Places.toNat=3:=by rw [H.pl];rfl
 by_cases e:p=q
 · subst e
   rw [zhf N (by omega)];omega
 · obtain ⟨k,hk,k1,k2⟩:∃ k,k<6∧k / 2=p∧toP k=q:=by
    refine ⟨2 * p+if q<p then q else q - 1,by split <;> omega,by split <;> omega,?_⟩
    unfold toP
    by_cases h:q<p
    · rw [if_pos h,if_pos (by omega)];omega
    · rw [if_neg h,if_neg (by omega)];omega
   have G:=H.ok k hk
   have:=zkP N c.Ways.length (Nat.le_refl _) k (by rw [H.wl];exact hk) (zkj H k (by rw [H.wl];exact hk))
   have ef:(way c k).From.toNat=p:=by rw [G.src,k1];rfl
   have et:(way c k).To.toNat=q:=by rw [G.dst,k2];rfl
   rw [ef,et] at this
   have h2:=zpB (M:=mw c U c.Ways.length) c.Places.toNat p q this.1
   have:=hU k hk
   unfold dst
   omega
structure TMat (c:Chart) (T:List Int) (m:List (List Range)):Prop where
 tr:TravelOk m
 len:m.length=3
 own:∀ p q,p<3→q<3→(tv m p q).Lo≤dst c (Tl T) p q∧dst c (Tl T) p q≤(tv m p q).Hi∧0≤dst c (Tl T) p q∧dst c (Tl T) p q≤34
theorem zki (H:TChart c T) {fuel:Nat} (hf:41≤fuel):Wp (zcm fuel c) (fun r=>r.2=0∧TMat c T r.1):=by
 refine (znc hf c).mono (fun r hr=>?_)
 have hv:=zfK H
 have hP:c.Places.toNat=3:=by rw [H.pl];rfl
 have NL:=zlJ hv false
 have NH:=zlJ hv true
 have NT:=zlI hv (zfh H)
 have eL:∀ i,boT c false i=(way c i).Takes.Lo:=fun i=>rfl
 have eH:∀ i,boT c true i=(way c i).Takes.Hi:=fun i=>rfl
 have dL:=fun p q hp hq=>zf6 H NL (fun i hi=>by rw [eL];have:=(H.ok i hi).rng;omega) (p:=p) (q:=q) hp hq
 have dH:=fun p q hp hq=>zf6 H NH (fun i hi=>by rw [eH];have:=(H.ok i hi).rng;omega) (p:=p) (q:=q) hp hq
 have dT:=fun p q hp hq=>zf6 H NT (fun i hi=>by have:=(H.ok i hi).rng;omega) (p:=p) (q:=q) hp hq
 rcases hr with ⟨h1,_⟩|⟨_,⟨p,q,hp,hq,h⟩,_⟩|⟨_,_,h3,h4,h5⟩
 · rw [hv] at h1;cases h1
 · have:=dH p q (by omega) (by omega)
   unfold hi at h
   omega
 · rw [hP] at h4 h5
   have et:∀ p q,p<3→q<3→tv r.1 p q=⟨dst c (boT c false) p q,dst c (boT c true) p q⟩:=fun p q hp hq=>h5 p q hp hq
   have mLT:=fun p q (hp:p<3) (hq:q<3)=>zl2 NL (V:=Tl T) (fun i hi=>by rw [eL];have:=(H.ok i (by rw [← H.wl];exact hi)).rng;omega) (p:=p) (q:=q) (by omega) (dT p q hp hq).1
   have mTH:=fun p q (hp:p<3) (hq:q<3)=>zl2 NT (V:=boT c true) (fun i hi=>by rw [eH];have:=(H.ok i (by rw [← H.wl];exact hi)).rng;omega) (p:=p) (q:=q) (by omega) (dH p q hp hq).1
   refine ⟨h3,⟨by rw [h4.len];omega,fun a ha=>?_,fun a ha=>?_,fun a b ha hb=>?_,fun a b d ha hb hd=>?_⟩,h4.len,fun p q hp hq=>?_⟩
   · rw [h4.len] at ha ⊢;exact h4.row a ha
   · rw [h4.len] at ha
     rw [et a a ha ha,zhf NL (by omega),zhf NH (by omega)]
     exact ⟨rfl,rfl⟩
   · rw [h4.len] at ha hb
     rw [et a b ha hb]
     have:=dL a b ha hb;have:=dH a b ha hb;have:=mLT a b ha hb;have:=mTH a b ha hb
     dsimp only;omega
   · rw [h4.len] at ha hb hd
     rw [et a b ha hb,et b d hb hd,et a d ha hd]
     have h1:=(zle NL (a:=a) (b:=b) (d:=d) (by omega) (by omega) (by omega) (dL a b ha hb).1 (dL b d hb hd).1).2
     have h2:=(zle NH (a:=a) (b:=b) (d:=d) (by omega) (by omega) (by omega) (dH a b ha hb).1 (dH b d hb hd).1).2
     exact ⟨h1,h2⟩
   · rw [et p q hp hq]
     exact ⟨mLT p q hp hq,mTH p q hp hq,(dT p q hp hq).1,(dT p q hp hq).2⟩
theorem zkh (H:TChart c T) {fuel:Nat} (hf:20000≤fuel) {p a:Int} (hp:0≤p∧p<3) (ha:0≤a∧a≤1300) :
 ∃ r,zcN fuel c T p a=some r∧r.2=0∧r.1.length=3∧∀ q,q<3→r.1.getD q default=a+dst c (Tl T) p.toNat q:=by
 obtain ⟨r,e1,hr⟩:=zmM hf c T p a
 have hv:=zfK H
 have hP:c.Places.toNat=3:=by rw [H.pl];rfl
 have NT:=zlI hv (zfh H)
 have e0:askE c p a=0:=by
  unfold askE
  rw [hv,zjY.2 (by omega),zlS.2 (by rw [H.pl];exact hp)]
  rfl
 refine ⟨r,e1,?_⟩
 rcases hr with ⟨h,_⟩|⟨_,h,_⟩|⟨_,_,h3,h4⟩
 · exact absurd e0 h
 · rw [zfh H] at h;cases h
 · refine ⟨h3,by rw [h4.len];exact hP,fun q hq=>?_⟩
   have d:=zf6 H NT (fun i hi=>by have:=(H.ok i hi).rng;omega) (p:=p.toNat) (q:=q) (by omega) hq
   exact zn8 NT (zkj H) (by rw [H.pl];exact hp) (by omega) h4 (by omega) d.1 (by omega)
end
end Go.Sp
end
/- Plain laws, crew: hands for rounds. No program in sight. -/
section
set_option linter.all false
namespace Go.Sp
open Go.Av
set_option maxRecDepth 100000
theorem hall {adj:Nat→Nat→Prop} {m i:Nat} {s s':Ks} (M:Mat adj m s) (hs:∀ k,s.seen k=false) (hi:s.back i<0) (H:Srch adj m i 0 s false s') {R:Nat→Prop} (Ri:R i) (hR:∀ x:Nat,0≤s.back x→R x) {g:Nat→Nat}
 (hg:∀ x,R x→g x<m∧adj x (g x)) (hinj:∀ x y,R x→R y→g x=g y→x=y):False:=by
 obtain ⟨a1,a2⟩:=H.shut rfl
 let S:=(List.range m).filter (fun k=>s'.seen k)
 have hS:∀ k,k∈S→k<m∧∃ o:Nat,s.own k=(o:Int)∧R o∧s.back o=(k:Int)∧∀ q,q<m→adj o q→s'.seen q=true:=fun k hk=>by
  simp only [S,List.mem_filter,List.mem_range] at hk
  obtain ⟨h0,o,h1,h2⟩:=a2 k hk.2 (hs k)
  obtain ⟨x,h3,h4⟩:=M.own k h0 (by omega)
  have:x=o:=by omega
  subst this
  exact ⟨h0,x,h1,hR x (by omega),h4,h2⟩
 have hle:=zb9 (l:=i::S.map (fun k=>(s.own k).toNat)) (r:=S) g (List.nodup_cons.2 ⟨fun hm=>?_,zdC (zaQ _ List.nodup_range) (fun x hx y hy e=>?_)⟩) (fun x hx=>?_) (fun x hx y hy e=>?_)
 · rw [List.length_cons,List.length_map] at hle;omega
 · obtain ⟨k,hk,e⟩:=List.mem_map.1 hm
   obtain ⟨_,o,h1,_,h2,_⟩:=hS k hk
   have:o=i:=by omega
   subst this;omega
 · obtain ⟨_,o,h1,_,h2,_⟩:=hS x hx
   obtain ⟨_,o',h3,_,h4,_⟩:=hS y hy
   have:o=o':=by omega
   subst this;omega
 · rcases List.mem_cons.1 hx with rfl|hx
   · obtain ⟨h1,h2⟩:=hg x Ri
     simp only [S,List.mem_filter,List.mem_range];exact ⟨h1,a1 _ (Nat.zero_le _) h1 h2⟩
   · obtain ⟨k,hk,rfl⟩:=List.mem_map.1 hx
     obtain ⟨_,o,h1,h2,_,h3⟩:=hS k hk
     obtain ⟨h4,h5⟩:=hg o h2
     rw [h1,Int.toNat_natCast]
     simp only [S,List.mem_filter,List.mem_range];exact ⟨h4,h3 _ h4 h5⟩
 · have inR:∀ x,x∈i::S.map (fun k=>(s.own k).toNat)→R x:=fun x hx=>by
    rcases List.mem_cons.1 hx with rfl|hx
    · exact Ri
    · obtain ⟨k,hk,rfl⟩:=List.mem_map.1 hx
      obtain ⟨_,o,h1,h2,_⟩:=hS k hk
      rw [h1,Int.toNat_natCast];exact h2
   exact hinj x y (inR x hx) (inR y hy) e
def zjX (r:List Int):Nat:=rk r (r.length - 1)
def abl (c:Crew) (r:List Int) (h:Nat):Bool:=decide ((hd c h).From≤(tk c (rk r 0)).At) && decide ((tk c (zjX r)).At+(tk c (zjX r)).Serve≤(hd c h).To)
section
variable {c:Crew} {ls:List (List Int)}
theorem zoP (V:Valid c) {p:crew_plan} (hp:p.Crew=c) {r:List Int} (R:IsRound (fol c Range.Hi) c.Tasks.length r) (x:Hand):za4 p x r=some (decide (x.From≤(tk c (rk r 0)).At) && decide ((tk c (zjX r)).At+(tk c (zjX r)).Serve≤x.To)):=by
 refine Wp.eq ?_
 unfold za4
 have hne:=R.ne
 have hl:=R.len (V:=V)
 obtain ⟨q1,q2⟩:=R.rk hne
 obtain ⟨q3,q4⟩:=R.rk (show r.length - 1<r.length by omega)
 have et:∀ a:Nat,c.Tasks.getD ((a:Int)).toNat default=tk c a:=fun _=>rfl
 have e1:(((r.length:Nat):Int) - 1).toNat=r.length - 1:=by omega
 have e2:rk r (r.length - 1)=zjX r:=rfl
 rw [hp,e1,q1,q3,et,et,e2]
 rw [e2] at q4
 have a1:=V.at q4
 exact zae (by omega) (zae (by omega) (zat (by omega) (zae (by omega) (zae (by omega) (zae (fun _=>by unfold inI;omega) (zap rfl))))))
theorem zjF (V:Valid c) {p:crew_plan} (hp:p.Crew=c) {r:List Int} (R:IsRound (fol c Range.Hi) c.Tasks.length r) (h:Nat):za4 p (c.Hands.getD h default) r=some (abl c r h):=zoP V hp R _
def hadj (c:Crew) (ls:List (List Int)) (F:Nat→Bool) (k h:Nat):Prop:=abl c (rd ls k) h=true∧F h=false
def ow (F:Nat→Bool) (T:List Int):Nat→Int:=fun h=>if F h=true then -1 else if h<T.length then T.getD h default - 1 else -1
structure HS (n m:Nat) (F:Nat→Bool) (fx T:List Int):Prop where
 tl:T.length=n
 ok:∀ h,h<n→0≤T.getD h default∧T.getD h default≤m∧((0<T.getD h default∧0≤fx.getD (T.getD h default - 1).toNat default)↔F h=true)
theorem zoX {F:Nat→Bool} {T:List Int} {h:Nat} {x:Int} (hF:F h=false) (hh:h<T.length):ow F (T.set h (x+1))=fun k=>if k=h then x else ow F T k:=by
 funext k
 unfold ow
 rw [List.length_set,zev _ _ _ _ _ hh]
 by_cases e:k=h
 · subst e;rw [hF,if_neg (by simp),if_pos hh,if_pos rfl,if_pos rfl];omega
 · rw [if_neg e,if_neg e]
theorem hstep (V:Valid c) {p:crew_plan} (hp:p.Crew=c) (A:∀ k,k<ls.length→IsRound (fol c Range.Hi) c.Tasks.length (rd ls k)) (hls:ls.length≤100000) {F:Nat→Bool} {fx:List Int} (hfx:fx.length=ls.length) (fuel:Nat) :
 ∀ (f k:Nat) (T:List Int) (seen:Int) (back:Nat→Int),k<ls.length→fx.getD k default<0→HS c.Hands.length ls.length F fx T→SB c.Hands.length seen→mu c.Hands.length (sb seen)<f →
  Wp (zbc fuel f (k:Int) ⟨some p,ls⟩ seen T fx) (fun r=>HS c.Hands.length ls.length F fx r.2.2∧SB c.Hands.length r.2.1∧∃ back',Srch (hadj c ls F) c.Hands.length k 0 ⟨sb seen,ow F T,back⟩ r.1 ⟨sb r.2.1,ow F r.2.2,back'⟩):=by
 have hn:c.Hands.length≤24:=by have:=V.hands;omega
 intro f
 induction f with
 | zero=>intro k T seen back _ _ _ _ h;omega
 | succ f ih=>
  intro k T seen back hk hfk hT hS hmu
  show Wp (zbl fuel (zbc fuel f) (k:Int) ⟨some p,ls⟩ seen T fx) _
  unfold zbl
  have ep:(some p).getD default=p:=rfl
  dsimp only
  rw [ep,hp]
  refine zae rfl ?_
  refine zaV (fun j s=>HS c.Hands.length ls.length F fx s.1∧SB c.Hands.length s.2∧mu c.Hands.length (sb s.2)≤mu c.Hands.length (sb seen)∧∃ bk,∀ b s',Srch (hadj c ls F) c.Hands.length k j ⟨sb s.2,ow F s.1,bk⟩ b s'→Srch (hadj c ls F) c.Hands.length k 0 ⟨sb seen,ow F T,back⟩ b s')
   ⟨hT,hS,Nat.le_refl _,back,fun _ _ h=>h⟩ (fun j s K hj hI hK=>?_) (fun s hI=>?_)
  · refine zkD (fun s=>HS c.Hands.length ls.length F fx s.2∧SB c.Hands.length s.1∧mu c.Hands.length (sb s.1)≤mu c.Hands.length (sb seen)∧∃ bk,∀ b s',Srch (hadj c ls F) c.Hands.length k (j+1) ⟨sb s.1,ow F s.2,bk⟩ b s'→Srch (hadj c ls F) c.Hands.length k 0 ⟨sb seen,ow F T,back⟩ b s') (fun K hK=>?_) (fun s hs=>hK _ hs)
    obtain ⟨T1,seen1⟩:=s
    obtain ⟨hT1,hS1,hmu1,bk,hsr⟩:=hI
    dsimp only at hT1 hS1 hmu1 hsr hK ⊢
    have htl:=hT1.tl
    obtain ⟨t1,t2,t3⟩:=hT1.ok j hj
    have ej:((j:Int)).toNat=j:=rfl
    have ek:ls.getD ((k:Int)).toNat default=rd ls k:=rfl
    have hpw:=zgo hj hn
    rw [ej,ek]
    refine zae (by omega) (zae (zd3 hS1.nn hS1.lt hn) ?_)
    rw [ze5 hS1.nn]
    have esb:seen1.toNat.testBit j=sb seen1 j:=rfl
    rw [esb]
    refine zae (fun _=>by omega) (zae (fun _=>rfl) ?_)
    refine zkC (Q:=fun r=>r=abl c (rd ls k) j) (fun _=>Wp.of_eq (zjF V hp (A k hk) j) rfl) (fun y hy=>?_)
    have hidx:0<T1.getD j default→0≤T1.getD j default - 1∧T1.getD j default - 1<(fx.length:Int):=fun h=>by omega
    refine zae (fun _=>by omega) (zae (fun _=>by omega) (zae (fun _=>by unfold inI;omega) (zae (fun h=>by
     simp only [Bool.and_eq_true,decide_eq_true_eq] at h;exact hidx h.2) ?_)))
    refine zbS (fun hb=>hK (seen1,T1) ⟨hT1,hS1,hmu1,bk,fun b s' h=>hsr b s' (.skip hj (fun ha=>?_) h)⟩) (fun hb=>?_)
    · show sb seen1 j=true
      cases h:sb seen1 j with
      | true=>rfl
      | false=>
       exfalso
       rw [h] at hb hy
       have:=hy rfl
       subst this
       rw [ha.1] at hb
       simp only [Bool.not_true,Bool.false_or,Bool.and_eq_true,decide_eq_true_eq] at hb
       have:=t3.1 hb
       rw [ha.2] at this;cases this
    · simp only [Bool.or_eq_false_iff,Bool.not_eq_false',Bool.and_eq_false_iff,decide_eq_false_iff_not] at hb
      have hs:=hb.1.1
      have:=hy (by rw [hs];rfl)
      subst this
      have hFj:F j=false:=by
       cases h:F j with
       | false=>rfl
       | true=>have:=t3.2 h;rcases hb.2 with h'|h' <;> omega
      have hadj:hadj c ls F k j:=⟨hb.1.2,hFj⟩
      refine zae ⟨by omega,by omega,by unfold inI;omega⟩ (zae ⟨hS1.nn,hpw.1,hS1.inI hn,by unfold inI;omega⟩ (zae (by omega) (zae (fun _=>by omega) (zae (fun _=>by unfold inI;omega) ?_))))
      have hS2:=hS1.put hj
      have hsee:∀ bk',(⟨sb (((seen1.toNat ||| (((1:Int) * 2 ^ j)).toNat:Nat):Int)),ow F T1,bk'⟩:Ks)=Ks.see ⟨sb seen1,ow F T1,bk'⟩ j:=fun bk'=>by unfold Ks.see;rw [zgL]
      have hmu2:mu c.Hands.length (sb (((seen1.toNat ||| (((1:Int) * 2 ^ j)).toNat:Nat):Int)))<mu c.Hands.length (sb seen1):=by
       rw [zgL]
       exact zom (j:=j) (fun k h=>by simp [h]) hj hs (by simp)
      generalize (((seen1.toNat ||| (((1:Int) * 2 ^ j)).toNat:Nat):Int))=seen2 at hS2 hsee hmu2
      have hown:ow F T1 j=T1.getD j default - 1:=by unfold ow;rw [hFj,if_neg (by simp),if_pos (by omega)]
      refine wp_bind (Q:=fun y=>HS c.Hands.length ls.length F fx y.2.2∧SB c.Hands.length y.2.1∧mu c.Hands.length (sb y.2.1)≤mu c.Hands.length (sb seen1)∧((T1.getD j default=0∧y=(default,seen2,T1))∨∃ (o:Nat) (bk':Nat→Int),T1.getD j default=(o:Int)+1∧Srch (Sp.hadj c ls F) c.Hands.length o 0 (Ks.see ⟨sb seen1,ow F T1,bk⟩ j) y.1 ⟨sb y.2.1,ow F y.2.2,bk'⟩)) ?_ (fun y hy=>?_)
      · by_cases h0:T1.getD j default=0
        · rw [decide_eq_true h0]
          exact zap ⟨hT1,hS2,by dsimp only;omega,.inl ⟨h0,rfl⟩⟩
        · rw [decide_eq_false h0]
          obtain ⟨o,ho'⟩:=Int.eq_ofNat_of_zero_le (show 0≤T1.getD j default - 1 by omega)
          have hfo:fx.getD o default<0:=by
           rcases hb.2 with h'|h'
           · omega
           · rw [ho',Int.toNat_natCast] at h';omega
          rw [ho']
          refine (ih o T1 seen2 bk (by omega) hfo hT1 hS2 (by omega)).mono (fun r hr=>?_)
          obtain ⟨r1,r2,bk',r3⟩:=hr
          refine ⟨r1,r2,?_,.inr ⟨o,bk',by omega,by rw [← hsee];exact r3⟩⟩
          have:=ziV (n:=c.Hands.length) r3.mono
          exact Nat.le_trans this (by show mu c.Hands.length (sb seen2)≤_;omega)
      · obtain ⟨b,seen3,T3⟩:=y
        obtain ⟨hT3,hS3,hmu3,hy⟩:=hy
        dsimp only at hT3 hS3 hmu3 hy ⊢
        have htl3:=hT3.tl
        refine zae (by omega) (zbS (fun hb'=>?_) (fun hb'=>?_))
        · refine zat (by omega) (zae (by omega) (zap ⟨⟨by rw [List.length_set];exact htl3,fun h hh=>?_⟩,hS3,?_⟩))
          · rw [zev _ _ _ _ _ (by omega)]
            by_cases e:h=j
            · subst e
              rw [if_pos rfl]
              refine ⟨by omega,by omega,⟨fun hx=>?_,fun hx=>by rw [hFj] at hx;cases hx⟩⟩
              rw [show ((k:Int)+1 - 1).toNat=k by omega] at hx
              omega
            · rw [if_neg e];exact hT3.ok h hh
          · dsimp only
            rcases hy with ⟨h0,e⟩|⟨o,bk',h0,h1⟩
            · cases e
              refine ⟨(Ks.give (Ks.see ⟨sb seen1,ow F T1,bk⟩ j) j k).back,hsr _ _ ?_⟩
              have:=Srch.free (adj:=Sp.hadj c ls F) (m:=c.Hands.length) (s:=⟨sb seen1,ow F T1,bk⟩) hj hadj hs (by show ow F T1 j<0;omega)
              rw [← hsee bk] at this
              rw [zoX hFj (by omega)]
              exact this
            · rw [decide_eq_false (by omega)] at hb'
              have hb':b=true:=by simpa using hb'
              subst hb'
              refine ⟨(Ks.give ⟨sb seen3,ow F T3,bk'⟩ j k).back,hsr _ _ ?_⟩
              rw [zoX hFj (by omega)]
              exact Srch.aug (s:=⟨sb seen1,ow F T1,bk⟩) hj hadj hs (by show ow F T1 j=(o:Int);omega) h1
        · rcases hy with ⟨h0,e⟩|⟨o,bk',h0,h1⟩
          · rw [decide_eq_true h0] at hb';simp at hb'
          · have hb2:b=false:=by
             cases b with
             | false=>rfl
             | true=>simp at hb'
            subst hb2
            exact hK (seen3,T3) ⟨hT3,hS3,by dsimp only;omega,bk',fun b' s' h=>hsr _ _ (.fail (s:=⟨sb seen1,ow F T1,bk⟩) hj hadj hs (by show ow F T1 j=(o:Int);omega) h1 h)⟩
  · obtain ⟨h1,h2,_,bk,h3⟩:=hI
    exact zap ⟨h1,h2,bk,h3 _ _ (.done (Nat.le_refl _))⟩
end
end Go.Sp
end
/- Plain laws, crew: whether hands can be given. No program in sight. -/
section
set_option linter.all false
namespace Go.Sp
open Go.Av
set_option maxRecDepth 100000
theorem Done.mat {adj:Nat→Nat→Prop} {m i:Nat} {s s':Ks} (W:Done adj m i s s') (hi:s.back i<0):Mat adj m s':=by
 refine ⟨W.back,fun k hkm hx=>?_⟩
 obtain ⟨x,h1,h2⟩:=W.own k hkm hx
 rcases h2 with h2|⟨rfl,h2⟩
 · exact ⟨x,h1,h2⟩
 · omega
structure By (m:Nat) (by_:List Int):Prop where
 nd:by_.Nodup
 rng:∀ j,j<by_.length→0≤by_.getD j default∧by_.getD j default<m
structure Fx (n m:Nat) (by_ fx:List Int):Prop where
 len:fx.length=m
 lt:∀ k:Nat,(k:Int)∈by_→fx.getD k default<n
 inj:∀ k k':Nat,(k:Int)∈by_→(k':Int)∈by_→0≤fx.getD k default→fx.getD k default=fx.getD k' default→k=k'
def Can (c:Crew) (ls:List (List Int)) (by_ fx:List Int) (g:Nat→Nat):Prop:=
 (∀ k:Nat,(k:Int)∈by_→g k<c.Hands.length∧(0≤fx.getD k default→fx.getD k default=(g k:Int))∧(fx.getD k default<0→abl c (rd ls k) (g k)=true))∧∀ k k':Nat,(k:Int)∈by_→(k':Int)∈by_→g k=g k'→k=k'
theorem By.mem {m:Nat} {by_:List Int} (B:By m by_) {x:Int} (hx:x∈by_):∃ k:Nat,x=(k:Int)∧k<m:=by
 obtain ⟨j,hj,rfl⟩:=zbK hx
 have:=B.rng j hj
 exact ⟨(by_.getD j default).toNat,by omega,by omega⟩
theorem By.get {m:Nat} {by_:List Int} (B:By m by_) {j:Nat} (hj:j<by_.length):∃ k:Nat,by_.getD j default=(k:Int)∧k<m∧(k:Int)∈by_:=by
 have h:=B.rng j hj
 exact ⟨(by_.getD j default).toNat,by omega,by omega,by have:=zbf hj;rwa [show by_.getD j default=((by_.getD j default).toNat:Int) by omega] at this⟩
theorem zit {l:List Int} (h:l.Nodup) {i j:Nat} (hi:i<l.length) (hj:j<l.length) (e:l.getD i default=l.getD j default):i=j:=by
 have h:List.Pairwise (· ≠ ·) l:=h
 rw [List.pairwise_iff_getElem] at h
 rw [List.getD_eq_getElem?_getD,List.getD_eq_getElem?_getD,List.getElem?_eq_getElem hi,List.getElem?_eq_getElem hj] at e
 simp only [Option.getD_some] at e
 rcases Nat.lt_trichotomy i j with h1|h1|h1
 · exact absurd e (h i j hi hj h1)
 · exact h1
 · exact absurd e.symm (h j i hj hi h1)
section
variable {c:Crew} {ls:List (List Int)}
theorem znY (V:Valid c) {p:crew_plan} (hp:p.Crew=c) (A:∀ k,k<ls.length→IsRound (fol c Range.Hi) c.Tasks.length (rd ls k)) (hls:ls.length≤100000) {by_ fx:List Int} (B:By ls.length by_) (X:Fx c.Hands.length ls.length by_ fx) {fuel:Nat} (hf:25≤fuel) :
 Wp (za3 fuel ⟨some p,ls⟩ by_ fx) (fun r=>r=true↔∃ g,Can c ls by_ fx g):=by
 have hn:=V.hands
 have hfl:=X.len
 unfold za3
 have ep:(some p).getD default=p:=rfl
 dsimp only
 rw [ep,hp]
 have en:(((c.Hands.length:Nat):Int)).toNat=c.Hands.length:=rfl
 rw [en]
 refine zae rfl (zae ⟨by omega,by omega,by unfold room;omega⟩ ?_)
 refine zaV (fun i T=>T.length=c.Hands.length∧∀ h,h<c.Hands.length→(T.getD h default=0∧∀ j,j<i→fx.getD (by_.getD j default).toNat default≠(h:Int))∨∃ j,j<i∧j<by_.length∧fx.getD (by_.getD j default).toNat default=(h:Int)∧T.getD h default=by_.getD j default+1)
  ⟨by simp,fun h _=>.inl ⟨by rw [getD0,zft],fun j hj=>by omega⟩⟩ (fun i T K hi hI hK=>?_) (fun T hI=>?_)
 · obtain ⟨h1,h2⟩:=hI
   obtain ⟨k,ek,hk,hkm⟩:=B.get hi
   rw [ek]
   have e0:((k:Int)).toNat=k:=rfl
   rw [e0]
   refine zae (by omega) (zcA (fun h0=>?_) (fun h0=>hK _ ⟨h1,fun h hh=>?_⟩))
   · have hlt:=X.lt k hkm
     obtain ⟨q,hq⟩:=Int.eq_ofNat_of_zero_le h0
     rw [hq] at hlt ⊢
     refine zae (by omega) (zat (by omega) (zae (by omega) (hK _ ⟨by rw [List.length_set];exact h1,fun h hh=>?_⟩)))
     rw [Int.toNat_natCast,zev _ _ _ _ _ (by omega)]
     by_cases e:h=q
     · subst e
       exact .inr ⟨i,by omega,hi,by rw [ek,e0];exact hq,by rw [if_pos rfl,ek]⟩
     · rw [if_neg e]
       rcases h2 h hh with ⟨a,b⟩|⟨j,a,b,c',d⟩
       · refine .inl ⟨a,fun j hj=>?_⟩
         by_cases ej:j=i
         · subst ej;rw [ek,e0,hq];omega
         · exact b j (by omega)
       · exact .inr ⟨j,by omega,b,c',d⟩
   · rcases h2 h hh with ⟨a,b⟩|⟨j,a,b,c',d⟩
     · refine .inl ⟨a,fun j hj=>?_⟩
       by_cases ej:j=i
       · subst ej;rw [ek,e0];omega
       · exact b j (by omega)
     · exact .inr ⟨j,by omega,b,c',d⟩
 · obtain ⟨h1,h2⟩:=hI
   let F:Nat→Bool:=fun h=>by_.any (fun k=>decide (fx.getD k.toNat default=(h:Int)))
   have hF:∀ h:Nat,F h=true↔∃ k:Nat,(k:Int)∈by_∧fx.getD k default=(h:Int):=fun h=>by
    show by_.any _=true↔_
    rw [List.any_eq_true]
    constructor
    · rintro ⟨x,hx,hd⟩
      obtain ⟨k,rfl,_⟩:=B.mem hx
      exact ⟨k,hx,by simpa using hd⟩
    · rintro ⟨k,hk,e⟩
      exact ⟨(k:Int),hk,by simpa using e⟩
   have hT0:HS c.Hands.length ls.length F fx T∧∀ h,h<c.Hands.length→ow F T h = -1:=by
    refine ⟨⟨h1,fun h hh=>?_⟩,fun h hh=>?_⟩
    · rcases h2 h hh with ⟨a,b⟩|⟨j,a,b,c',d⟩
      · rw [a]
        refine ⟨by omega,by omega,⟨fun hx=>by omega,fun hx=>?_⟩⟩
        obtain ⟨k,hk,e⟩:=(hF h).1 hx
        obtain ⟨j,hj,ej⟩:=zbK hk
        have:=b j hj
        rw [ej,Int.toNat_natCast] at this
        exact absurd e this
      · obtain ⟨k,ek,hk,hkm⟩:=B.get b
        rw [ek] at c' d
        rw [d,show ((k:Int)+1 - 1).toNat=k by omega]
        rw [Int.toNat_natCast] at c'
        exact ⟨by omega,by omega,⟨fun _=>(hF h).2 ⟨k,hkm,c'⟩,fun _=>by omega⟩⟩
    · unfold ow
      rcases h2 h hh with ⟨a,b⟩|⟨j,a,b,c',d⟩
      · rw [a,if_pos (show h<T.length by omega)];split <;> omega
      · obtain ⟨k,ek,hk,hkm⟩:=B.get b
        rw [ek,Int.toNat_natCast] at c'
        rw [if_pos ((hF h).2 ⟨k,hkm,c'⟩)]
   refine zaV (fun i T=>HS c.Hands.length ls.length F fx T∧∃ seen back,Mat (hadj c ls F) c.Hands.length ⟨seen,ow F T,back⟩∧∀ x:Nat,(0≤back x↔(∃ j,j<i∧j<by_.length∧by_.getD j default=(x:Int))∧fx.getD x default<0))
    ⟨hT0.1,fun _=>false,fun _=>-1,⟨fun x hx=>by have hx:(0:Int) ≤ -1:=hx;omega,fun k hk hx=>by have e:ow F T k = -1:=hT0.2 k hk;have hx:0≤ow F T k:=hx;omega⟩,fun x=>⟨fun h=>(by have h:(0:Int) ≤ -1:=h;omega),fun ⟨⟨j,hj,_⟩,_⟩=>by omega⟩⟩ (fun i T K hi hI hK=>?_) (fun T hI=>zap ⟨fun _=>?_,fun _=>rfl⟩)
   · obtain ⟨hT,seen0,back,M,hb⟩:=hI
     obtain ⟨k,ek,hk,hkm⟩:=B.get hi
     have e0:((k:Int)).toNat=k:=rfl
     have upd:∀ x:Nat,(∃ j,j<i+1∧j<by_.length∧by_.getD j default=(x:Int))↔(∃ j,j<i∧j<by_.length∧by_.getD j default=(x:Int))∨x=k:=fun x=>by
      constructor
      · rintro ⟨j,a,b,e⟩
        by_cases ej:j=i
        · subst ej;right;omega
        · exact .inl ⟨j,by omega,b,e⟩
      · rintro (⟨j,a,b,e⟩|rfl)
        · exact ⟨j,by omega,b,e⟩
        · exact ⟨i,by omega,hi,ek⟩
     have hbk:¬ (0≤back k):=fun h=>by
      obtain ⟨⟨j,a,b,e⟩,_⟩:=(hb k).1 h
      have:=zit B.nd b hi (by rw [e,ek]);omega
     refine zkD (fun T=>HS c.Hands.length ls.length F fx T∧∃ seen back,Mat (hadj c ls F) c.Hands.length ⟨seen,ow F T,back⟩∧∀ x:Nat,(0≤back x↔(∃ j,j<i+1∧j<by_.length∧by_.getD j default=(x:Int))∧fx.getD x default<0)) (fun K2 hK2=>?_) (fun s hs=>hK s hs)
     rw [ek,e0]
     refine zae (by omega) (zcA (fun h0=>hK2 _ ⟨hT,seen0,back,M,fun x=>?_⟩) (fun h0=>?_))
     · rw [hb x,upd x]
       constructor
       · rintro ⟨a,b⟩;exact ⟨.inl a,b⟩
       · rintro ⟨a|rfl,b⟩
         · exact ⟨a,b⟩
         · omega
     · have hneg:fx.getD k default<0:=by omega
       refine wp_bind (hstep V hp A hls hfl fuel fuel k T 0 back hk hneg hT (SB.zero _) (by have:=zon c.Hands.length (sb 0);omega)) (fun y hy=>?_)
       obtain ⟨hT',hS',back',hsr⟩:=hy
       have M0:Mat (hadj c ls F) c.Hands.length ⟨sb 0,ow F T,back⟩:=⟨M.back,M.own⟩
       have hz:∀ k,sb 0 k=false:=fun k=>by show (0:Int).toNat.testBit k=false;simp
       cases hy1:y.1 with
       | false=>
        rw [hy1] at hsr
        refine zbU rfl (zap ⟨fun h=>(by cases h),fun ⟨g,hg⟩=>?_⟩)
        exfalso
        refine hall M0 hz (show back k<0 by omega) hsr (R:=fun x=>(x:Int)∈by_∧fx.getD x default<0) ⟨hkm,hneg⟩ (fun x hx=>?_) (g:=g) (fun x hx=>?_) (fun x y hx hy e=>hg.2 x y hx.1 hy.1 e)
        · obtain ⟨⟨j,a,b,e⟩,h3⟩:=(hb x).1 hx
          exact ⟨e▸zbf b,h3⟩
        · obtain ⟨a,b,d⟩:=hg.1 x hx.1
          refine ⟨a,d hx.2,?_⟩
          cases hFg:F (g x) with
          | false=>rfl
          | true=>
           obtain ⟨k',hk',e⟩:=(hF (g x)).1 hFg
           have h5:=(hg.1 k' hk').2.1 (by omega)
           have:k'=x:=hg.2 k' x hk' hx.1 (by omega)
           subst this;have:=hx.2;omega
       | true=>
        rw [hy1] at hsr
        have W:=hsr.win rfl M0 (fun q hq=>by have hq:back k=(q:Int):=hq;omega)
        refine zay rfl (hK2 _ ⟨hT',sb y.2.1,back',W.mat (show back k<0 by omega),fun x=>?_⟩)
        rw [upd x]
        by_cases ex:x=k
        · subst ex
          obtain ⟨q,hq,_⟩:=W.new
          have hq:back' x=(q:Int):=hq
          exact ⟨fun _=>⟨.inr rfl,hneg⟩,fun _=>by omega⟩
        · have:(0≤back' x↔0≤back x):=(W.rest x ex).1
          rw [this,hb x]
          constructor
          · rintro ⟨a,b⟩;exact ⟨.inl a,b⟩
          · rintro ⟨a|rfl,b⟩
            · exact ⟨a,b⟩
            · exact absurd rfl ex
   · obtain ⟨hT,seen0,back,M,hb⟩:=hI
     have hback:∀ k:Nat,(k:Int)∈by_→fx.getD k default<0→∃ h:Nat,back k=(h:Int)∧h<c.Hands.length∧ow F T h=(k:Int)∧hadj c ls F k h:=fun k hk hneg=>by
      obtain ⟨j,hj,ej⟩:=zbK hk
      exact M.back k ((hb k).2 ⟨⟨j,hj,hj,ej⟩,hneg⟩)
     refine ⟨fun k=>if 0≤fx.getD k default then (fx.getD k default).toNat else (back k).toNat,fun k hk=>?_,fun k k' hk hk' e=>?_⟩
     · by_cases h0:0≤fx.getD k default
       · have:=X.lt k hk
         simp only [if_pos h0]
         exact ⟨by omega,fun _=>by omega,fun h=>by omega⟩
       · obtain ⟨h,e1,e2,e3,e4⟩:=hback k hk (by omega)
         simp only [if_neg h0,e1,Int.toNat_natCast]
         exact ⟨e2,fun h'=>absurd h' h0,fun _=>e4.1⟩
     · by_cases h0:0≤fx.getD k default
       · by_cases h0':0≤fx.getD k' default
         · simp only [if_pos h0,if_pos h0'] at e
           exact X.inj k k' hk hk' h0 (by omega)
         · obtain ⟨h,e1,e2,e3,e4⟩:=hback k' hk' (by omega)
           simp only [if_pos h0,if_neg h0',e1,Int.toNat_natCast] at e
           have:F h=true:=(hF h).2 ⟨k,hk,by omega⟩
           rw [e4.2] at this;cases this
       · obtain ⟨h,e1,e2,e3,e4⟩:=hback k hk (by omega)
         by_cases h0':0≤fx.getD k' default
         · simp only [if_neg h0,if_pos h0',e1,Int.toNat_natCast] at e
           have:F h=true:=(hF h).2 ⟨k',hk',by omega⟩
           rw [e4.2] at this;cases this
         · obtain ⟨h',e1',e2',e3',e4'⟩:=hback k' hk' (by omega)
           simp only [if_neg h0,if_neg h0',e1,e1',Int.toNat_natCast] at e
           subst e;omega
theorem zk1 {p:Option crew_plan} (hls:ls.length≤100000):zaW ⟨p,ls⟩=some (List.replicate ls.length (-1)):=by
 refine Wp.eq ?_
 unfold zaW
 have en:(((ls.length:Nat):Int)).toNat=ls.length:=rfl
 dsimp only
 rw [en]
 refine zae ⟨by omega,by omega,by unfold room;omega⟩ (zae (by rw [List.length_replicate];omega) ?_)
 have el:(List.replicate ls.length (0:Int)).length=ls.length:=List.length_replicate
 rw [el]
 refine zaV (fun i s=>s.length=ls.length∧∀ k,k<i→s.getD k default = -1) ⟨by simp,fun k hk=>by omega⟩ (fun i s K hi hI hK=>?_) (fun s hI=>zap ?_)
 · obtain ⟨h1,h2⟩:=hI
   refine zae (by omega) (hK _ ⟨by rw [List.length_set];exact h1,fun k hk=>?_⟩)
   rw [zev _ _ _ _ _ (by omega)]
   by_cases e:k=i
   · rw [if_pos e]
   · rw [if_neg e];exact h2 k (by omega)
 · refine zow (by rw [hI.1];simp) (fun i hi=>?_)
   rw [hI.2 i (by omega)]
   have:(List.replicate ls.length (-1:Int)).getD i default=if i<ls.length then -1 else default:=by
    rw [List.getD_eq_getElem?_getD,List.getElem?_replicate];split <;> rfl
   rw [this,if_pos (by omega)]
def upto (m:Nat):List Int:=(List.range m).map (fun (k:Nat)=>(k:Int))
theorem zgv {p:Option crew_plan} (hls:ls.length≤100000):zaX ⟨p,ls⟩=some (upto ls.length):=by
 refine Wp.eq ?_
 unfold zaX
 dsimp only
 refine zae (by omega) ?_
 refine zaV (fun i s=>s=upto i) rfl (fun i s K hi hI hK=>?_) (fun s hI=>zap hI)
 subst hI
 refine zae (by unfold room upto;simp only [List.length_append,List.length_map,List.length_range,List.length_cons,List.length_nil];omega) (hK _ ?_)
 unfold upto
 rw [List.range_succ,List.map_append];rfl
theorem zbG {m:Nat} {x:Int}:x∈upto m↔0≤x∧x<m:=by
 unfold upto
 rw [List.mem_map]
 constructor
 · rintro ⟨k,hk,rfl⟩;have:=List.mem_range.1 hk;omega
 · rintro ⟨h1,h2⟩;exact ⟨x.toNat,List.mem_range.2 (by omega),by omega⟩
theorem zlv (m:Nat):(upto m).Pairwise (· < ·):=by
 unfold upto
 rw [List.pairwise_map]
 exact List.pairwise_lt_range.imp (fun h=>by omega)
theorem By.zo1 {m:Nat} {l:List Int} (h:l.Pairwise (· < ·)) (hr:∀ x∈l,0≤x∧x<m):By m l:=
 ⟨h.imp (fun h=>by omega),fun j hj=>hr _ (zbf hj)⟩
theorem zi6 {m k:Nat}:(List.replicate m (-1:Int)).getD k default<0∨m≤k:=by
 by_cases h:k<m
 · left
   rw [List.getD_eq_getElem?_getD,List.getElem?_replicate,if_pos h];show (-1:Int)<0;omega
 · right;omega
theorem znm {n m:Nat} {by_:List Int} (B:By m by_):Fx n m by_ (List.replicate m (-1)):=by
 refine ⟨by simp,fun k hk=>?_,fun k k' hk _ h _=>?_⟩
 · obtain ⟨q,e,hq⟩:=B.mem hk
   rcases zi6 (m:=m) (k:=k) with h|h <;> omega
 · obtain ⟨q,e,hq⟩:=B.mem hk
   rcases zi6 (m:=m) (k:=k) with h'|h' <;> omega
def CanF (c:Crew) (ls:List (List Int)) (by_:List Int):Prop:=∃ g:Nat→Nat,(∀ k:Nat,(k:Int)∈by_→g k<c.Hands.length∧abl c (rd ls k) (g k)=true)∧∀ k k':Nat,(k:Int)∈by_→(k':Int)∈by_→g k=g k'→k=k'
theorem zl6 {by_:List Int} (B:By ls.length by_):(∃ g,Can c ls by_ (List.replicate ls.length (-1)) g)↔CanF c ls by_:=by
 have hneg:∀ k:Nat,(k:Int)∈by_→(List.replicate ls.length (-1:Int)).getD k default<0:=fun k hk=>by
  obtain ⟨q,e,hq⟩:=B.mem hk
  rcases zi6 (m:=ls.length) (k:=k) with h|h
  · exact h
  · omega
 constructor
 · rintro ⟨g,h1,h2⟩
   exact ⟨g,fun k hk=>⟨(h1 k hk).1,(h1 k hk).2.2 (hneg k hk)⟩,h2⟩
 · rintro ⟨g,h1,h2⟩
   exact ⟨g,fun k hk=>⟨(h1 k hk).1,fun h=>by have:=hneg k hk;omega,fun _=>(h1 k hk).2⟩,h2⟩
end
end Go.Sp
end
/- Plain laws, crew: Assign, Short, and their tests. No program in sight. -/
section
set_option linter.all false
namespace Go.Sp
open Go.Av
set_option maxRecDepth 100000
theorem zos (l:List Int) (x:Int):Wp (zcd l x) (fun r=>(0≤r∧x∈l)∨(r = -1∧x ∉ l)):=by
 unfold zcd
 refine zaN (fun i=>l.getD i default≠x) (fun i K hi _ hK=>zcA (fun h=>zap (.inl ⟨Int.natCast_nonneg i,?_⟩)) (fun h=>hK (fun e=>h e.symm))) (fun h=>zap (.inr ⟨rfl,fun hm=>?_⟩))
 · rw [h];exact zbf hi
 · obtain ⟨i,hi,e⟩:=zbK hm
   exact h i hi e
theorem contains_eq (l:List Int) (x:Int):zba l x=some (decide (x∈l)):=by
 refine Wp.eq ?_
 unfold zba
 refine wp_bind (zos l x) (fun y hy=>zap ?_)
 rcases hy with ⟨h1,h2⟩|⟨rfl,h2⟩
 · rw [decide_eq_true h1,decide_eq_true h2]
 · rw [decide_eq_false h2];rfl
section
variable {c:Crew} {ls:List (List Int)}
structure Given (c:Crew) (ls:List (List Int)) (g:Nat→Nat):Prop where
 ok:∀ k,k<ls.length→g k<c.Hands.length∧abl c (rd ls k) (g k)=true
 inj:∀ k k',k<ls.length→k'<ls.length→g k=g k'→k=k'
theorem zjs:CanF c ls (upto ls.length)↔∃ g,Given c ls g:=by
 constructor
 · rintro ⟨g,h1,h2⟩
   exact ⟨g,⟨fun k hk=>h1 k (zbG.2 (by omega)),fun k k' hk hk' e=>h2 k k' (zbG.2 (by omega)) (zbG.2 (by omega)) e⟩⟩
 · rintro ⟨g,h⟩
   exact ⟨g,fun k hk=>h.ok k (by have:=zbG.1 hk;omega),fun k k' hk hk' e=>h.inj k k' (by have:=zbG.1 hk;omega) (by have:=zbG.1 hk';omega) e⟩
theorem zku (m:Nat):By m (upto m):=By.zo1 (zlv m) (fun x hx=>by have:=zbG.1 hx;omega)
structure Pre (c:Crew) (ls:List (List Int)) (i:Nat) (fx:List Int):Prop where
 len:fx.length=ls.length
 done:∀ k,k<i→0≤fx.getD k default∧fx.getD k default<c.Hands.length
 rest:∀ k,i≤k→k<ls.length→fx.getD k default = -1
def Ext (c:Crew) (ls:List (List Int)) (i:Nat) (fx:List Int):Prop:=∃ g,Given c ls g∧∀ k,k<i→fx.getD k default=(g k:Int)
theorem Ext.fx {i:Nat} {fx:List Int} (P:Pre c ls i fx) (hi:i≤ls.length) (hinj:∀ k k',k<i→k'<i→fx.getD k default=fx.getD k' default→k=k'):Fx c.Hands.length ls.length (upto ls.length) fx:=by
 refine ⟨P.len,fun k hk=>?_,fun k k' hk hk' h0 e=>?_⟩
 · have:=zbG.1 hk
   by_cases h:k<i
   · exact (P.done k h).2
   · rw [P.rest k (by omega) (by omega)];omega
 · have:=zbG.1 hk
   have:=zbG.1 hk'
   by_cases h:k<i
   · by_cases h':k'<i
     · exact hinj k k' h h' e
     · rw [P.rest k' (by omega) (by omega)] at e;omega
   · rw [P.rest k (by omega) (by omega)] at h0;omega
theorem zpL {i:Nat} {fx:List Int} (P:Pre c ls i fx) (hi:i≤ls.length) (hab:∀ k,k<i→abl c (rd ls k) (fx.getD k default).toNat=true):(∃ g,Can c ls (upto ls.length) fx g)↔Ext c ls i fx:=by
 constructor
 · rintro ⟨g,h1,h2⟩
   refine ⟨g,⟨fun k hk=>?_,fun k k' hk hk' e=>h2 k k' (zbG.2 (by omega)) (zbG.2 (by omega)) e⟩,fun k hk=>(h1 k (zbG.2 (by omega))).2.1 (P.done k hk).1⟩
   obtain ⟨a,b,d⟩:=h1 k (zbG.2 (by omega))
   refine ⟨a,?_⟩
   by_cases h:k<i
   · have e:=b (P.done k h).1
     have:=hab k h
     rwa [e,Int.toNat_natCast] at this
   · exact d (by rw [P.rest k (by omega) hk];omega)
 · rintro ⟨g,G,h⟩
   refine ⟨g,fun k hk=>?_,fun k k' hk hk' e=>G.inj k k' (by have:=zbG.1 hk;omega) (by have:=zbG.1 hk';omega) e⟩
   have hk:=zbG.1 hk
   obtain ⟨a,b⟩:=G.ok k (by omega)
   refine ⟨a,fun h0=>?_,fun _=>b⟩
   by_cases h':k<i
   · exact h k h'
   · rw [P.rest k (by omega) (by omega)] at h0;omega
structure Firsts (c:Crew) (ls:List (List Int)) (i:Nat) (g:Nat→Nat):Prop where
 ext:∃ g',Given c ls g'∧∀ k,k<i→g' k=g k
 first:∀ k,k<i→∀ h,h<g k→¬ ∃ g',Given c ls g'∧(∀ q,q<k→g' q=g q)∧g' k=h
theorem znR (V:Valid c) (hF:Fit ls) (A:AreRounds (fol c Range.Hi) c.Tasks.length ls) (hls:ls.length≤24) {fuel:Nat} (hf:30≤fuel) :
 Wp (zdJ fuel c ls) (fun r=>((¬ ∃ g,Given c ls g)∧r=([],45))∨∃ g,Firsts c ls ls.length g∧r=((List.range ls.length).map (fun k=>(hd c (g k)).Id),0)):=by
 have hH:=V.hands
 unfold zdJ
 refine wp_bind (zhg c ls hF) (fun y hy=>?_)
 obtain ⟨p,rfl,hp,IP⟩:∃ p,y=(some p,0)∧p.Crew=c∧IsPlan c.Tasks.length (fol c Range.Hi) p:=by
  rcases hy with ⟨h,rfl⟩|⟨h,h2,rfl⟩|⟨h,h2,p,rfl,h3⟩
  · exact absurd V h
  · exact absurd A h2
  · exact ⟨p,rfl,h3⟩
 have ep:(some p).getD default=p:=rfl
 refine zay rfl (zaq (zk1 (by omega)) (zaq (zgv (by omega)) (wp_bind (znY V hp A.round (by omega) (zku _) (znm (zku _)) (by omega)) (fun y hy=>?_))))
 rw [zl6 (zku _),zjs] at hy
 cases y with
 | false=>exact zbU rfl (zap (.inl ⟨fun h=>(by have:=hy.2 h;cases this),rfl⟩))
 | true=>
  refine zay rfl ?_
  dsimp only
  rw [ep]
  refine zaV (fun i s=>∃ g,Firsts c ls i g∧Pre c ls i s.1∧(∀ k,k<i→s.1.getD k default=(g k:Int))∧s.2=(List.range i).map (fun k=>(hd c (g k)).Id))
   ⟨fun _=>0,⟨by obtain ⟨g,hg⟩:=hy.1 rfl;exact ⟨g,hg,fun k hk=>by omega⟩,fun k hk=>by omega⟩,⟨by simp,fun k hk=>by omega,fun k _ hk=>by dsimp only;rw [List.getD_eq_getElem?_getD,List.getElem?_replicate,if_pos hk];rfl⟩,fun k hk=>by omega,rfl⟩ (fun i s K hi hI hK=>?_) (fun s hI=>?_)
  · obtain ⟨fx,out⟩:=s
    obtain ⟨g,hG,hP,hfg,hout⟩:=hI
    dsimp only at hP hfg hout hK ⊢
    have hfl:=hP.len
    have er:ls.getD i default=rd ls i:=rfl
    obtain ⟨g',hg',hgg⟩:=hG.ext
    -- the inner loop: hands ahead don't serve
    refine zaV (fun h f=>f.length=ls.length∧(∀ k,k≠i→f.getD k default=fx.getD k default)∧∀ q,q<h→¬ ∃ g'',Given c ls g''∧(∀ k,k<i→g'' k=g k)∧g'' i=q)
     ⟨hfl,fun k _=>rfl,fun q hq=>by omega⟩ (fun h f K2 hh hI2 hK2=>?_) (fun f hI2=>?_)
    · obtain ⟨f1,f2,f3⟩:=hI2
      rw [er]
      refine zae rfl (zaq (zjF V hp (A.round i hi) h) ?_)
      refine zae (fun _=>by omega) ?_
      refine zkC (Q:=fun r=>r=decide ((h:Int)∈(f.take i).drop 0)) (fun _=>Wp.of_eq (contains_eq _ _) rfl) (fun y hy=>?_)
      have hmem:(h:Int)∈(f.take i).drop 0↔∃ k,k<i∧g k=h:=by
       rw [List.drop_zero]
       constructor
       · intro hm
         obtain ⟨k,hk,e⟩:=zbK hm
         rw [List.length_take] at hk
         rw [getD_take,if_pos (by omega),f2 k (by omega),hfg k (by omega)] at e
         exact ⟨k,by omega,by omega⟩
       · rintro ⟨k,hk,e⟩
         have:(f.take i).getD k default=(h:Int):=by rw [getD_take,if_pos hk,f2 k (by omega),hfg k hk,e]
         rw [← this]
         exact zbf (by rw [List.length_take];omega)
      refine zbS (fun hb=>hK2 f ⟨f1,f2,fun q hq=>?_⟩) (fun hb=>?_)
      · by_cases e:q=h
        · subst e
          rintro ⟨g'',G'',e1,e2⟩
          obtain ⟨a,b⟩:=G''.ok i hi
          rw [e2] at a b
          rw [b] at hb hy
          have:=hy rfl
          subst this
          have hb:(q:Int)∈(f.take i).drop 0:=by simpa [-List.drop_zero] using hb
          obtain ⟨k,hk,ek⟩:=hmem.1 hb
          have:=G''.inj k i (by omega) hi (by rw [e1 k hk,ek,e2])
          omega
        · exact f3 q (by omega)
      · simp only [Bool.or_eq_false_iff,Bool.not_eq_false'] at hb
        have hy:=hy (by rw [hb.1];rfl)
        rw [hy] at hb
        have hno:¬ ∃ k,k<i∧g k=h:=fun he=>by
         have:=hb.2;rw [decide_eq_true (hmem.2 he)] at this;cases this
        have ei:((i:Int)).toNat=i:=rfl
        have hset:∀ k,(f.set i (h:Int)).getD k default=if k=i then (h:Int) else f.getD k default:=fun k=>zev _ _ _ _ _ (by omega)
        have P1:Pre c ls (i+1) (f.set i (h:Int)):=⟨by rw [List.length_set];exact f1,fun k hk=>by
         rw [hset]
         by_cases e:k=i
         · rw [if_pos e];omega
         · rw [if_neg e,f2 k e];exact hP.done k (by omega),fun k hk hk'=>by
         rw [hset,if_neg (by omega),f2 k (by omega)];exact hP.rest k (by omega) hk'⟩
        have hv:∀ k,k<i→(f.set i (h:Int)).getD k default=(g k:Int):=fun k hk=>by rw [hset,if_neg (by omega),f2 k (by omega)];exact hfg k hk
        have hginj:∀ k k',k<i→k'<i→g k=g k'→k=k':=fun k k' hk hk' e=>hg'.inj k k' (by omega) (by omega) (by rw [hgg k hk,hgg k' hk',e])
        have X:Fx c.Hands.length ls.length (upto ls.length) (f.set i (h:Int)):=Ext.fx P1 (by omega) (fun k k' hk hk' e=>by
         by_cases e1:k=i
         · by_cases e2:k'=i
           · omega
           · rw [hset,if_pos e1,hv k' (by omega)] at e
             exact absurd ⟨k',by omega,by omega⟩ hno
         · by_cases e2:k'=i
           · rw [hv k (by omega),hset,if_pos e2] at e
             exact absurd ⟨k,by omega,by omega⟩ hno
           · rw [hv k (by omega),hv k' (by omega)] at e
             exact hginj k k' (by omega) (by omega) (by omega))
        have hce:=zpL P1 (by omega) (fun k hk=>by
         by_cases e:k=i
         · subst e;rw [hset,if_pos rfl,Int.toNat_natCast];exact hb.1
         · rw [hv k (by omega),Int.toNat_natCast,← hgg k (by omega)]
           exact (hg'.ok k (by omega)).2)
        refine zae (by omega) (zaq (zgv (by omega)) (wp_bind (znY V hp A.round (by omega) (zku _) X (by omega)) (fun y hy=>?_)))
        rw [hce] at hy
        cases y with
        | true=>
         obtain ⟨g1,G1,e1⟩:=hy.1 rfl
         have hgi:g1 i=h:=by have:=e1 i (by omega);rw [hset,if_pos rfl] at this;omega
         have hgk:∀ k,k<i→g1 k=g k:=fun k hk=>by have:=e1 k (by omega);rw [hv k hk] at this;omega
         have hval:(f.set i (h:Int)).getD i default=(h:Int):=by rw [hset,if_pos rfl]
         refine zbU rfl (zae (by rw [List.length_set];omega) ?_)
         rw [hval]
         have hlo:out.length≤24:=by rw [hout,List.length_map,List.length_range];omega
         refine zae (by omega) (zae (by rw [List.length_append];exact zod (by simp only [List.length_cons,List.length_nil];omega)) (hK _ ⟨g1,⟨⟨g1,G1,fun _ _=>rfl⟩,fun k hk q hq=>?_⟩,P1,e1,?_⟩))
         · by_cases e:k=i
           · subst e
             rw [hgi] at hq
             rintro ⟨g2,G2,e2,e3⟩
             exact f3 q hq ⟨g2,G2,fun k' hk'=>by rw [e2 k' hk',hgk k' hk'],e3⟩
           · rw [hgk k (by omega)] at hq
             rintro ⟨g2,G2,e2,e3⟩
             exact hG.first k (by omega) q hq ⟨g2,G2,fun k' hk'=>by rw [e2 k' hk',hgk k' (by omega)],e3⟩
         · dsimp only
           rw [List.range_succ,List.map_append,hout]
           have e0:((h:Int)).toNat=h:=rfl
           rw [e0]
           congr 1
           · exact List.map_congr_left (fun k hk=>by rw [hgk k (List.mem_range.1 hk)])
           · show [_]=[(hd c (g1 i)).Id];rw [hgi];rfl
        | false=>
         refine zay rfl (hK2 _ ⟨P1.len,fun k hk=>by rw [hset,if_neg hk];exact f2 k hk,fun q hq=>?_⟩)
         by_cases e:q=h
         · subst e
           rintro ⟨g2,G2,e2,e3⟩
           have:=hy.2 ⟨g2,G2,fun k hk=>by
            by_cases ek:k=i
            · subst ek;rw [hset,if_pos rfl];omega
            · rw [hv k (by omega),e2 k (by omega)]⟩
           cases this
         · exact f3 q (by omega)
    · exfalso
      exact hI2.2.2 (g' i) (hg'.ok i hi).1 ⟨g',hg',hgg,rfl⟩
  · obtain ⟨g,hG,hP,hfg,hout⟩:=hI
    exact zap (.inr ⟨g,hG,by rw [hout]⟩)
end
end Go.Sp
end
/- Plain laws, crew: Short, and the tests of hands. No program in sight. -/
section
set_option linter.all false
namespace Go.Sp
open Go.Av
set_option maxRecDepth 100000
theorem zj0 (l:List Hand) (x:Int):Wp (zbj l (fun h=>some (decide (h.Id=x)))) (fun r=>(∃ i:Nat,r=(i:Int)∧i<l.length∧(l.getD i default).Id=x∧∀ j,j<i→(l.getD j default).Id≠x)∨(r = -1∧∀ i,i<l.length→(l.getD i default).Id≠x)):=by
 unfold zbj
 refine zaN (fun i=>(l.getD i default).Id≠x) (fun i K hi hpre hK=>zaq rfl (zcA (fun h=>zap (.inl ⟨i,rfl,hi,h,hpre⟩)) (fun h=>hK h))) (fun h=>zap (.inr ⟨rfl,h⟩))
section
variable {c:Crew} {ls:List (List Int)}
theorem zjD (V:Valid c) (hF:Fit ls) (A:AreRounds (fol c Range.Hi) c.Tasks.length ls):∃ p,zb0 c ls=some (some p,0)∧p.Crew=c∧IsPlan c.Tasks.length (fol c Range.Hi) p:=by
 obtain ⟨r,e,hy⟩:=zhg c ls hF
 rcases hy with ⟨h,rfl⟩|⟨h,h2,rfl⟩|⟨h,h2,p,rfl,h3⟩
 · exact absurd V h
 · exact absurd A h2
 · exact ⟨p,e,h3⟩
structure GivenIds (c:Crew) (ls:List (List Int)) (l:List Int):Prop where
 len:l.length=ls.length
 ok:∀ k,k<ls.length→∃ h,h<c.Hands.length∧(hd c h).Id=l.getD k default∧abl c (rd ls k) h=true
 nd:l.Nodup
theorem znj (V:Valid c):∀ (b a:Nat),a<b→b<c.Hands.length→(hd c a).Id<(hd c b).Id
 | 0,a,h,_=>by omega
 | b+1,a,h,hb=>by
  have h1:=(V.hand (b+1) hb).2 (by omega)
  rw [show b+1 - 1=b by omega] at h1
  by_cases e:a=b
  · subst e;exact h1
  · have:=znj V b a (by omega) (by omega);omega
theorem id_eq (V:Valid c) {a b:Nat} (ha:a<c.Hands.length) (hb:b<c.Hands.length) (e:(hd c a).Id=(hd c b).Id):a=b:=by
 rcases Nat.lt_trichotomy a b with h|h|h
 · have:=znj V b a h hb;omega
 · exact h
 · have:=znj V a b h ha;omega
theorem zol {l:List Int} (h:∀ k,k<l.length→l.getD k default ∉ l.take k):l.Nodup:=by
 show List.Pairwise (· ≠ ·) l
 rw [List.pairwise_iff_getElem]
 intro i j hi hj hij e
 refine h j hj ?_
 rw [List.getD_eq_getElem?_getD,List.getElem?_eq_getElem hj,Option.getD_some,← e]
 have:(l.take j)[i]'(by rw [List.length_take];omega)=l[i]:=by simp
 rw [← this];exact List.getElem_mem _
theorem zok {l:List Int} (h:l.Nodup) {k:Nat} (hk:k<l.length):l.getD k default ∉ l.take k:=by
 intro hm
 obtain ⟨j,hj,e⟩:=zbK hm
 rw [List.length_take] at hj
 rw [getD_take,if_pos (by omega)] at e
 have:=zit h (show j<l.length by omega) hk e
 omega
theorem zif (V:Valid c) (hF:Fit ls) (A:AreRounds (fol c Range.Hi) c.Tasks.length ls) (l:List Int):zcg c ls l=some (ck (GivenIds c ls l) 0 46):=by
 refine zpc ?_
 unfold zcg
 obtain ⟨p,ea,hp,IP⟩:=zjD V hF A
 have ep:(some p).getD default=p:=rfl
 refine zaq ea (zay rfl ?_)
 dsimp only
 rw [ep]
 refine zoS (fun h=>zap (.inr ⟨fun G=>absurd (show ((l.length:Nat):Int)=((ls.length:Nat):Int) by rw [G.len]) h,rfl⟩)) (fun h=>?_)
 have hll:l.length=ls.length:=by omega
 refine zaN (fun k=>(∃ h,h<c.Hands.length∧(hd c h).Id=l.getD k default∧abl c (rd ls k) h=true)∧l.getD k default ∉ l.take k) (fun k K hk _ hK=>?_) (fun h=>zap (.inl ⟨⟨hll,fun k hk=>(h k (by omega)).1,zol (fun k hk=>(h k hk).2)⟩,rfl⟩))
 have ef:(fun x0=>some (zbq x0 (l.getD k default)))=fun (x:Hand)=>some (decide (x.Id=l.getD k default)):=rfl
 rw [ef]
 refine wp_bind (zj0 _ _) (fun y hy=>?_)
 have hl2:=hF.1
 refine zae (fun _=>by omega) ?_
 refine zkC (Q:=fun r=>r=decide (l.getD k default∈l.take k)) (fun _=>Wp.of_eq (contains_eq _ _) rfl) (fun z hz=>?_)
 rcases hy with ⟨i,rfl,hi,e1,e2⟩|⟨rfl,hno⟩
 · rw [decide_eq_false (show ¬ ((i:Int)<0) by omega)] at hz ⊢
   have:=hz rfl
   subst this
   have ei:((i:Int)).toNat=i:=rfl
   have er:ls.getD k default=rd ls k:=rfl
   rw [ei,er]
   refine zae (fun _=>by omega) (zae (fun _=>by omega) (zae (fun _=>rfl) ?_))
   refine zkC (Q:=fun r=>r=abl c (rd ls k) i) (fun _=>Wp.of_eq (zjF V hp (A.round k (by omega)) i) rfl) (fun w hw=>?_)
   refine zbS (fun hb=>zap (.inr ⟨fun G=>?_,rfl⟩)) (fun hb=>?_)
   · obtain ⟨h',h1,h2,h3⟩:=G.ok k (by omega)
     have:h'=i:=id_eq V h1 hi (by rw [h2];exact e1.symm)
     subst this
     have hnt:=zok G.nd hk
     rw [decide_eq_false hnt] at hb hw
     have:=hw rfl
     subst this
     rw [h3] at hb;cases hb
   · simp only [Bool.or_eq_false_iff,Bool.not_eq_false',decide_eq_false_iff_not,Bool.false_or] at hb
     have:=hw (by rw [decide_eq_false hb.1];rfl)
     subst this
     exact hK ⟨⟨i,hi,e1,hb.2⟩,hb.1⟩
 · rw [decide_eq_true (show (-1:Int)<0 by omega)]
   refine zae (fun h=>by cases h) (zae (fun h=>by cases h) (zae (fun h=>by cases h) ?_))
   refine zgh rfl rfl (zbU rfl (zap (.inr ⟨fun G=>?_,rfl⟩)))
   obtain ⟨h',h1,h2,h3⟩:=G.ok k (by omega)
   exact hno h' h1 h2
def doers (c:Crew) (ls:List (List Int)) (S:List Int):List Nat:=(List.range c.Hands.length).filter (fun h=>S.any (fun k=>abl c (rd ls k.toNat) h))
structure ShortOk (c:Crew) (ls:List (List Int)) (S:List Int):Prop where
 rng:∀ k,k<S.length→0≤S.getD k default∧S.getD k default<ls.length
 asc:∀ k,0<k→k<S.length→S.getD (k - 1) default<S.getD k default
 few:(doers c ls S).length<S.length
theorem zhV {l:List Int} {f:Int→Option Bool} {g:Int→Bool} (hf:∀ x∈l,f x=some (g x)):zaD l f=some (l.any g):=by
 refine Wp.eq ?_
 unfold zaD
 refine wp_bind (Q:=fun r=>(0≤r∧l.any g=true)∨(r = -1∧l.any g=false)) ?_ (fun y hy=>zap ?_)
 · unfold zaR
   refine zaN (fun i=>g (l.getD i default)=false) (fun i K hi _ hK=>?_) (fun h=>zap (.inr ⟨rfl,?_⟩))
   · refine zaq (hf _ (zbf hi)) (zbS (fun h=>zap (.inl ⟨Int.natCast_nonneg i,List.any_eq_true.2 ⟨_,zbf hi,h⟩⟩)) (fun h=>hK h))
   · rw [List.any_eq_false]
     intro x hx
     obtain ⟨i,hi,rfl⟩:=zbK hx
     rw [h i hi];simp
 · rcases hy with ⟨h1,h2⟩|⟨rfl,h2⟩
   · rw [h2,decide_eq_true h1]
   · rw [h2];rfl
theorem zjq (V:Valid c) (hF:Fit ls) (A:AreRounds (fol c Range.Hi) c.Tasks.length ls) (S:List Int) (hS:S.length≤9223372036854775807):zb2 c ls S=some (ck (ShortOk c ls S) 0 47):=by
 refine zpc ?_
 unfold zb2
 obtain ⟨p,ea,hp,IP⟩:=zjD V hF A
 have ep:(some p).getD default=p:=rfl
 have hl2:=hF.1
 refine zaq ea (zay rfl ?_)
 dsimp only
 rw [ep]
 refine zaN (fun k=>(0≤S.getD k default∧S.getD k default<ls.length)∧(0<k→S.getD (k - 1) default<S.getD k default)) (fun k K hk _ hK=>?_) (fun h=>?_)
 · have e:(((k:Int) - 1)).toNat=k - 1:=by omega
   rw [e]
   refine zat (by omega) (zae (fun _=>by unfold inI;omega) (zae (fun h=>by simp at h;omega) ?_))
   refine zbS (fun h=>zap (.inr ⟨fun G=>?_,rfl⟩)) (fun h=>?_)
   · have h1:=G.rng k hk
     simp only [Bool.or_eq_true,Bool.not_eq_true',Bool.and_eq_true,decide_eq_true_eq] at h
     rcases h with h|h
     · rw [zeD.2 (by omega)] at h;cases h
     · have:=G.asc k (by omega) hk;omega
   · simp only [Bool.or_eq_false_iff,Bool.not_eq_false',Bool.and_eq_false_iff,decide_eq_false_iff_not] at h
     have hin:=zeD.1 h.1
     exact hK ⟨by omega,fun h0=>by rcases h.2 with h|h <;> omega⟩
 · have hfun:∀ j:Nat,∀ x∈S,(fun x0=>zbe x0 p (c.Hands.getD j default) ls) x=some ((fun (k:Int)=>abl c (rd ls k.toNat) j) x):=fun j x hx=>by
    obtain ⟨i,hi,rfl⟩:=zbK hx
    have hr:=(h i hi).1
    show zbe _ _ _ _=_
    unfold zbe
    rw [zdd hr]
    have er:ls.getD (S.getD i default).toNat default=rd ls (S.getD i default).toNat:=rfl
    rw [er,zjF V hp (A.round _ (by omega)) j];rfl
   refine zaV (fun i s=>s=(((List.range i).filter (fun h=>S.any (fun k=>abl c (rd ls k.toNat) h))).length:Int)) rfl (fun i s K hi hI hK=>?_) (fun s hI=>?_)
   · subst hI
     have hle:((List.range i).filter (fun h=>S.any (fun k=>abl c (rd ls k.toNat) h))).length≤i:=Nat.le_trans (List.length_filter_le _ _) (by simp)
     have hH:=V.hands
     refine zae rfl (zaq (zhV (hfun i)) (zbS (fun hb=>zat (by omega) (hK _ ?_)) (fun hb=>hK _ ?_)))
     · rw [List.range_succ,List.filter_append,List.length_append,List.filter_cons,if_pos hb];simp
     · rw [List.range_succ,List.filter_append,List.length_append,List.filter_cons,if_neg (by rw [hb];simp)];simp
   · subst hI
     refine zcA (fun hb=>zap (.inr ⟨fun G=>?_,rfl⟩)) (fun hb=>zap (.inl ⟨⟨fun k hk=>(h k hk).1,fun k h0 hk=>(h k hk).2 h0,?_⟩,rfl⟩))
     · have:=G.few;unfold doers at this;omega
     · unfold doers;omega
end
end Go.Sp
end
/- Plain laws, crew: too few hands; Short. No program in sight. -/
section
set_option linter.all false
namespace Go.Sp
open Go.Av
set_option maxRecDepth 100000
theorem zgk {adj:Nat→Nat→Prop} {m f:Nat} (ih:∀ (i:Nat) (s:Ks),mu m s.seen<f→∃ b s',Srch adj m i 0 s b s') (i:Nat):∀ (q j:Nat) (s:Ks),m - j≤q→mu m s.seen<f+1→∃ b s',Srch adj m i j s b s'
 | 0,j,s,h,_=>⟨false,s,.done (by omega)⟩
 | q+1,j,s,h,hm=>by
  by_cases hj:j<m
  · by_cases hc:adj i j→s.seen j=true
    · obtain ⟨b,s',h'⟩:=zgk ih i q (j+1) s (by omega) hm
      exact ⟨b,s',.skip hj hc h'⟩
    · have ha:adj i j:=Classical.byContradiction fun h=>hc (fun h'=>absurd h' h)
      have hs:s.seen j=false:=by
       cases h:s.seen j with
       | false=>rfl
       | true=>exact absurd (fun _=>h) hc
      by_cases ho:s.own j<0
      · exact ⟨_,_,.free hj ha hs ho⟩
      · obtain ⟨o,ho⟩:=Int.eq_ofNat_of_zero_le (show 0≤s.own j by omega)
        have hlt:mu m (s.see j).seen<mu m s.seen:=zom (j:=j) (fun k h=>by show (_ || _)=true;rw [h];rfl) hj hs (by show (_ || _)=true;simp)
        obtain ⟨b,s1,h1⟩:=ih o (s.see j) (by omega)
        cases b with
        | true=>exact ⟨_,_,.aug hj ha hs ho h1⟩
        | false=>
         have:=ziV (n:=m) h1.mono
         obtain ⟨b',s',h'⟩:=zgk ih i q (j+1) s1 (by omega) (by omega)
         exact ⟨b',s',.fail hj ha hs ho h1 h'⟩
  · exact ⟨false,s,.done (by omega)⟩
theorem zmS {adj:Nat→Nat→Prop} {m:Nat}:∀ (f i:Nat) (s:Ks),mu m s.seen<f→∃ b s',Srch adj m i 0 s b s'
 | 0,_,_,h=>by omega
 | f+1,i,s,h=>zgk (zmS f) i m 0 s (by omega) h
def InjN (adj:Nat→Nat→Prop) (m:Nat) (T:Nat→Prop):Prop:=∃ g:Nat→Nat,(∀ k,T k→g k<m∧adj k (g k))∧∀ k k',T k→T k'→g k=g k'→k=k'
theorem tight {adj:Nat→Nat→Prop} {m:Nat} {T:List Nat} (hno:¬ InjN adj m (· ∈ T)) (hone:∀ x∈T,InjN adj m (fun k=>k∈T∧k≠x)) {N:List Nat} (hN:N.Nodup) (hN':∀ q∈N,q<m∧∃ k∈T,adj k q):N.length<T.length:=by
 have hne:∃ x,x∈T:=by
  cases T with
  | nil=>exact absurd ⟨fun _=>0,fun k h=>(by cases h),fun k k' h=>(by cases h)⟩ hno
  | cons a l=>exact ⟨a,List.mem_cons_self ..⟩
 obtain ⟨x,hx⟩:=hne
 obtain ⟨g,g1,g2⟩:=hone x hx
 classical
 let T':Nat→Prop:=fun k=>k∈T∧k≠x
 let s:Ks:=⟨fun _=>false,fun k=>if h:∃ y,T' y∧g y=k then (h.choose:Int) else -1,fun y=>if T' y then (g y:Int) else -1⟩
 have sown:∀ y,T' y→s.own (g y)=(y:Int):=fun y hy=>by
  have he:∃ z,T' z∧g z=g y:=⟨y,hy,rfl⟩
  show (if h:∃ z,T' z∧g z=g y then (h.choose:Int) else -1)=_
  rw [dif_pos he,g2 _ _ he.choose_spec.1 hy he.choose_spec.2]
 have M:Mat adj m s:=by
  refine ⟨fun y hy=>?_,fun k hk hy=>?_⟩
  · have hy:(0:Int)≤if T' y then (g y:Int) else -1:=hy
    by_cases h:T' y
    · exact ⟨g y,by show (if T' y then _ else _)=_;rw [if_pos h],(g1 y h).1,sown y h,(g1 y h).2⟩
    · rw [if_neg h] at hy;omega
  · have hy':(0:Int)≤if h:∃ y,T' y∧g y=k then (h.choose:Int) else -1:=hy
    by_cases h:∃ y,T' y∧g y=k
    · obtain ⟨y,h1,rfl⟩:=h
      exact ⟨y,sown y h1,by show (if T' y then _ else _)=_;rw [if_pos h1]⟩
    · rw [dif_neg h] at hy';omega
 have hbx:s.back x<0:=by
  show (if T' x then (g x:Int) else -1)<0
  rw [if_neg (fun h=>h.2 rfl)];omega
 obtain ⟨b,s',H⟩:=zmS (adj:=adj) (m:=m) (m+1) x s (by have:=zon m s.seen;omega)
 cases b with
 | true=>
  exfalso
  have W:=H.win rfl M (fun k hk=>by omega)
  have M':=W.mat hbx
  have hb:∀ k,k∈T→0≤s'.back k:=fun k hk=>by
   by_cases e:k=x
   · subst e;obtain ⟨q,hq,_⟩:=W.new;omega
   · refine (W.rest k e).1.2 ?_
     show (0:Int)≤if T' k then (g k:Int) else -1
     rw [if_pos ⟨hk,e⟩];omega
  refine hno ⟨fun k=>(s'.back k).toNat,fun k hk=>?_,fun k k' hk hk' e=>?_⟩
  · obtain ⟨q,h1,h2,_,h4⟩:=M'.back k (hb k hk)
    dsimp only;rw [h1,Int.toNat_natCast];exact ⟨h2,h4⟩
  · obtain ⟨q,h1,_,h3,_⟩:=M'.back k (hb k hk)
    obtain ⟨q',h1',_,h3',_⟩:=M'.back k' (hb k' hk')
    dsimp only at e
    rw [h1,h1',Int.toNat_natCast,Int.toNat_natCast] at e
    subst e;omega
 | false=>
  obtain ⟨a1,a2⟩:=H.shut rfl
  let S:=(List.range m).filter (fun k=>s'.seen k)
  have hS:∀ k,k∈S→∃ o:Nat,s.own k=(o:Int)∧T' o∧g o=k∧∀ q,q<m→adj o q→s'.seen q=true:=fun k hk=>by
   simp only [S,List.mem_filter,List.mem_range] at hk
   obtain ⟨h0,o,h1,h2⟩:=a2 k hk.2 rfl
   obtain ⟨y,h3,h4⟩:=M.own k h0 (by omega)
   have:y=o:=by omega
   subst this
   have h4':(if T' y then (g y:Int) else -1)=(k:Int):=h4
   by_cases h:T' y
   · rw [if_pos h] at h4';exact ⟨y,h1,h,by omega,h2⟩
   · rw [if_neg h] at h4';omega
  have hSn:S.Nodup:=zaQ _ List.nodup_range
  let R:=x::S.map (fun k=>(s.own k).toNat)
  have hRl:R.length=S.length+1:=by simp only [R,List.length_cons,List.length_map]
  have hRn:R.Nodup:=by
   refine List.nodup_cons.2 ⟨fun hm=>?_,zdC hSn (fun y hy z hz e=>?_)⟩
   · obtain ⟨k,hk,e⟩:=List.mem_map.1 hm
     obtain ⟨o,h1,h2,_⟩:=hS k hk
     exact h2.2 (by omega)
   · obtain ⟨o,h1,_,h3,_⟩:=hS y hy
     obtain ⟨o',h1',_,h3',_⟩:=hS z hz
     have:o=o':=by omega
     subst this;omega
  have hRT:∀ y∈R,y∈T:=fun y hy=>by
   rcases List.mem_cons.1 hy with rfl|hy
   · exact hx
   · obtain ⟨k,hk,rfl⟩:=List.mem_map.1 hy
     obtain ⟨o,h1,h2,_⟩:=hS k hk
     rw [h1,Int.toNat_natCast];exact h2.1
  have hRs:∀ y∈R,∀ q,q<m→adj y q→q∈S:=fun y hy q hq ha=>by
   simp only [S,List.mem_filter,List.mem_range]
   refine ⟨hq,?_⟩
   rcases List.mem_cons.1 hy with rfl|hy
   · exact a1 q (Nat.zero_le _) hq ha
   · obtain ⟨k,hk,rfl⟩:=List.mem_map.1 hy
     obtain ⟨o,h1,_,_,h4⟩:=hS k hk
     rw [h1,Int.toNat_natCast] at ha
     exact h4 q hq ha
  have hTR:∀ y∈T,y∈R:=fun y hy=>by
   refine Classical.byContradiction fun hyR=>?_
   obtain ⟨h,h1,h2⟩:=hone y hy
   have inT:∀ z∈R,z∈T∧z≠y:=fun z hz=>⟨hRT z hz,fun e=>hyR (e▸hz)⟩
   have:=zb9 (r:=S) h hRn (fun z hz=>hRs z hz _ (h1 z (inT z hz)).1 (h1 z (inT z hz)).2) (fun z hz z' hz' e=>h2 z z' (inT z hz) (inT z' hz') e)
   omega
  have h1:=zdu hN (r:=S) (fun q hq=>by
   obtain ⟨h,k,hk,ha⟩:=hN' q hq
   exact hRs k (hTR k hk) q h ha)
  have h2:=zdu hRn (r:=T) hRT
  omega
section
variable {c:Crew} {ls:List (List Int)}
theorem CanF.sub {S S':List Int} (h:CanF c ls S) (hs:∀ k:Nat,(k:Int)∈S'→(k:Int)∈S):CanF c ls S':=by
 obtain ⟨g,h1,h2⟩:=h
 exact ⟨g,fun k hk=>h1 k (hs k hk),fun k k' hk hk' e=>h2 k k' (hs k hk) (hs k' hk') e⟩
structure Tight (c:Crew) (ls:List (List Int)) (S:List Int):Prop where
 rng:∀ x∈S,0≤x∧x<ls.length
 asc:S.Pairwise (· < ·)
 no:¬ CanF c ls S
 one:∀ k,k<S.length→CanF c ls (S.take k++S.drop (k+1))
theorem Tight.few {S:List Int} (T:Tight c ls S):(doers c ls S).length+1=S.length:=by
 have hnat:∀ x∈S,x=((x.toNat:Nat):Int):=fun x hx=>by have:=T.rng x hx;omega
 have hmem:∀ k:Nat,k∈S.map Int.toNat↔(k:Int)∈S:=fun k=>by
  rw [List.mem_map]
  constructor
  · rintro ⟨x,hx,rfl⟩;rw [← hnat x hx];exact hx
  · intro h;exact ⟨k,h,rfl⟩
 have hnd:S.Nodup:=T.asc.imp (fun h=>by omega)
 have hcut:∀ j,j<S.length→∀ x∈S,x≠S.getD j default→x∈S.take j++S.drop (j+1):=fun j hj x hx hne=>by
  obtain ⟨i,hi,rfl⟩:=zbK hx
  rcases Nat.lt_trichotomy i j with h|h|h
  · refine List.mem_append.2 (.inl ?_)
    have:(S.take j).getD i default=S.getD i default:=by rw [getD_take,if_pos h]
    rw [← this];exact zbf (by rw [List.length_take];omega)
  · exact absurd (by rw [h]) hne
  · refine List.mem_append.2 (.inr ?_)
    have:(S.drop (j+1)).getD (i - (j+1)) default=S.getD i default:=by rw [getD_drop];congr 1;omega
    rw [← this];exact zbf (by rw [List.length_drop];omega)
 have hone:∀ x∈S.map Int.toNat,InjN (fun k h=>abl c (rd ls k) h=true) c.Hands.length (fun k=>k∈S.map Int.toNat∧k≠x):=fun x hx=>by
  obtain ⟨j,hj,e⟩:=zbK ((hmem x).1 hx)
  obtain ⟨g,h1,h2⟩:=T.one j hj
  have hin:∀ k,k∈S.map Int.toNat∧k≠x→(k:Int)∈S.take j++S.drop (j+1):=fun k hk=>hcut j hj _ ((hmem k).1 hk.1) (by rw [e];have:=hk.2;omega)
  exact ⟨g,fun k hk=>h1 k (hin k hk),fun k k' hk hk' e=>h2 k k' (hin k hk) (hin k' hk') e⟩
 have hlt:=tight (adj:=fun k h=>abl c (rd ls k) h=true) (m:=c.Hands.length) (T:=S.map Int.toNat) (fun ⟨g,h1,h2⟩=>T.no ⟨g,fun k hk=>h1 k ((hmem k).2 hk),fun k k' hk hk' e=>h2 k k' ((hmem k).2 hk) ((hmem k').2 hk') e⟩) hone (N:=doers c ls S) (zaQ _ List.nodup_range) (fun q hq=>by
  unfold doers at hq
  rw [List.mem_filter,List.mem_range,List.any_eq_true] at hq
  obtain ⟨h0,x,hx,ha⟩:=hq
  exact ⟨h0,x.toNat,(hmem _).2 (by rw [← hnat x hx];exact hx),ha⟩)
 rw [List.length_map] at hlt
 have hge:S.length≤(doers c ls S).length+1:=by
  have h0:0<S.length:=by omega
  obtain ⟨g,h1,h2⟩:=T.one 0 h0
  have hsub:∀ x∈S.take 0++S.drop (0+1),x∈S:=fun x hx=>by
   rcases List.mem_append.1 hx with hx|hx
   · exact List.mem_of_mem_take hx
   · exact List.mem_of_mem_drop hx
  have:=zb9 (l:=S.take 0++S.drop (0+1)) (r:=doers c ls S) (fun x=>g x.toNat) (by rw [List.take_zero,List.nil_append];exact hnd.sublist (List.drop_sublist _ _)) (fun x hx=>?_) (fun x hx y hy e=>?_)
  · rw [List.length_append,List.length_take,List.length_drop] at this;omega
  · have hx':=hx
    rw [hnat x (hsub x hx)] at hx'
    obtain ⟨a,b⟩:=h1 _ hx'
    unfold doers
    rw [List.mem_filter,List.mem_range,List.any_eq_true]
    exact ⟨a,x,hsub x hx,b⟩
  · have hx':=hx
    have hy':=hy
    rw [hnat x (hsub x hx)] at hx'
    rw [hnat y (hsub y hy)] at hy'
    have:=h2 _ _ hx' hy' e
    rw [hnat x (hsub x hx),hnat y (hsub y hy),this]
 omega
theorem znJ {S:List Int} (h:S.Pairwise (· < ·)) (k:Nat):(S.take k++S.drop (k+1)).Pairwise (· < ·):=by
 refine h.sublist ?_
 have:S.take k++S.drop (k+1)=S.eraseIdx k:=(List.eraseIdx_eq_take_drop_succ ..).symm
 rw [this];exact List.eraseIdx_sublist ..
theorem znG {S:List Int} {k:Nat} {x:Int} (h:x∈S.take k++S.drop (k+1)):x∈S:=by
 rcases List.mem_append.1 h with hx|hx
 · exact List.mem_of_mem_take hx
 · exact List.mem_of_mem_drop hx
theorem znH {S:List Int} {k:Nat} (h:k<S.length):(S.take k++S.drop (k+1)).length+1=S.length:=by
 rw [List.length_append,List.length_take,List.length_drop];omega
theorem zpK {S:List Int} {k j:Nat} (hk:k<S.length) (hj:k≤j) (hj':j+1<S.length) {x:Int} (hx:x∈(S.take k++S.drop (k+1)).take j++(S.take k++S.drop (k+1)).drop (j+1)):x∈S.take (j+1)++S.drop (j+2):=by
 have hl:(S.take k).length=k:=by rw [List.length_take];omega
 rcases List.mem_append.1 hx with h|h
 · refine List.mem_append.2 (.inl ?_)
   rw [List.take_append] at h
   rcases List.mem_append.1 h with h|h
   · have:=List.mem_of_mem_take h
     obtain ⟨i,hi,rfl⟩:=zbK this
     rw [hl] at hi
     rw [getD_take,if_pos hi]
     have e:(S.take (j+1)).getD i default=S.getD i default:=by rw [getD_take,if_pos (by omega)]
     rw [← e];exact zbf (by rw [List.length_take];omega)
   · rw [hl] at h
     obtain ⟨i,hi,rfl⟩:=zbK h
     rw [List.length_take,List.length_drop] at hi
     rw [getD_take,if_pos (by omega),getD_drop]
     have e:(S.take (j+1)).getD (k+1+i) default=S.getD (k+1+i) default:=by rw [getD_take,if_pos (by omega)]
     rw [← e];exact zbf (by rw [List.length_take];omega)
 · refine List.mem_append.2 (.inr ?_)
   rw [List.drop_append,hl,List.drop_eq_nil_of_le (by omega),List.nil_append,List.drop_drop] at h
   rwa [show k+1+(j+1 - k)=j+2 by omega] at h
theorem zoG (l:List Int) (h:l.length≤100000):zbI l=some l:=zdd (show room _ 8 by rw [List.nil_append];unfold room;omega) _
theorem znF (l:List Int) (k:Nat) (h:k<l.length) (hl:l.length≤100000):zbW l (k:Int) ((k:Int)+1)=some (l.take k++l.drop (k+1)):=by
 refine Wp.eq ?_
 unfold zbW
 have e0:((k:Int)).toNat=k:=rfl
 have e1:((k:Int)+1).toNat=k+1:=by omega
 rw [e0,e1]
 refine zae (by omega) ?_
 rw [decide_eq_false (show ¬ (k:Int)=(k:Int)+1 by omega)]
 refine zay rfl (zae (by omega) (zae (by omega) (zae (by omega) (zae ?_ (zap rfl)))))
 have:=znH h
 omega
theorem zoc (V:Valid c) (hF:Fit ls) (A:AreRounds (fol c Range.Hi) c.Tasks.length ls) (hls:ls.length≤24) {fuel:Nat} (hf:30≤fuel) :
 Wp (zei fuel c ls) (fun r=>((∃ g,Given c ls g)∧r=([],3))∨((¬ ∃ g,Given c ls g)∧r.2=0∧Tight c ls r.1)):=by
 unfold zei
 obtain ⟨p,ea,hp,IP⟩:=zjD V hF A
 refine zaq ea (zay rfl ?_)
 dsimp only
 have hul:(upto ls.length).length=ls.length:=by unfold upto;rw [List.length_map,List.length_range]
 have allF:∀ {S:List Int},(By ls.length S)→Wp (za3 fuel ⟨some p,ls⟩ S (List.replicate ls.length (-1))) (fun r=>r=true↔CanF c ls S):=fun {S} B=>
  (znY V hp A.round (by omega) B (znm B) (by omega)).mono (fun r hr=>by rw [zl6 B] at hr;exact hr)
 refine zaq (zgv (by omega)) (zaq (zk1 (by omega)) (wp_bind (allF (zku _)) (fun y hy=>?_)))
 rw [zjs] at hy
 cases y with
 | true=>exact zbU rfl (zap (.inl ⟨hy.1 rfl,rfl⟩))
 | false=>
  have hno:¬ ∃ g,Given c ls g:=fun h=>by have:=hy.2 h;cases this
  refine zay rfl (zat (by omega) ?_)
  refine wp_loop (fun s=>-1≤s.1∧s.1<s.2.length∧s.2.length≤ls.length∧(∀ x∈s.2,0≤x∧x<ls.length)∧s.2.Pairwise (· < ·)∧¬ CanF c ls s.2∧∀ k:Nat,s.1<k→k<s.2.length→CanF c ls (s.2.take k++s.2.drop (k+1))) (fun s=>(s.1+1).toNat) (by dsimp only;omega) ⟨by dsimp only;omega,by dsimp only;omega,by dsimp only;omega,fun x hx=>zbG.1 hx,zlv _,by rw [zjs];exact hno,fun k hk hk'=>by dsimp only at hk hk';omega⟩ (fun s K hI hK=>?_)
  obtain ⟨i,S⟩:=s
  obtain ⟨h1,h2,h3,h4,h5,h6,h7⟩:=hI
  dsimp only at h1 h2 h3 h4 h5 h6 h7 hK ⊢
  refine zcA (fun h0=>?_) (fun h0=>?_)
  · obtain ⟨k,rfl⟩:=Int.eq_ofNat_of_zero_le h0
    refine zaq (zoG _ (by omega)) (zat (by omega) (zaq (znF _ _ (by omega) (by omega)) ?_))
    have B:By ls.length (S.take k++S.drop (k+1)):=By.zo1 (znJ h5 k) (fun x hx=>h4 x (znG hx))
    refine zaq (zk1 (by omega)) (wp_bind (allF B) (fun z hz=>?_))
    have hcl:=znH (S:=S) (k:=k) (by omega)
    cases z with
    | false=>
     refine zbU rfl (zat (by omega) (hK _ ⟨by dsimp only;omega,by dsimp only;omega,by dsimp only;omega,fun x hx=>h4 x (znG hx),znJ h5 k,fun h=>(by have:=hz.2 h;cases this),fun j hj hj'=>?_⟩ (by dsimp only;omega)))
     dsimp only at hj hj' ⊢
     exact (h7 (j+1) (by omega) (by omega)).sub (fun q hq=>zpK (by omega) (by omega) (by omega) hq)
    | true=>
     refine zay rfl (zat (by omega) (hK _ ⟨by dsimp only;omega,by dsimp only;omega,by dsimp only;omega,h4,h5,h6,fun j hj hj'=>?_⟩ (by dsimp only;omega)))
     dsimp only at hj hj' ⊢
     by_cases e:j=k
     · subst e;exact hz.1 rfl
     · exact h7 j (by omega) hj'
  · exact zap (.inr ⟨hno,rfl,h4,h5,h6,fun k hk=>h7 k (by omega) hk⟩)
theorem Tight.ok {S:List Int} (T:Tight c ls S):ShortOk c ls S:=by
 refine ⟨fun k hk=>T.rng _ (zbf hk),fun k h0 hk=>?_,by have:=T.few;omega⟩
 have h:=T.asc
 rw [List.pairwise_iff_getElem] at h
 have:=h (k - 1) k (by omega) hk (by omega)
 rw [List.getD_eq_getElem?_getD,List.getD_eq_getElem?_getD,List.getElem?_eq_getElem hk,List.getElem?_eq_getElem (show k - 1<S.length by omega)]
 exact this
end
end Go.Sp
end
/- Plain laws, crew: Able, Ill; CrewEither. No program in sight. -/
section
set_option linter.all false
namespace Go.Sp
open Go.Av
set_option maxRecDepth 100000
section
variable {c:Crew} {ls:List (List Int)}
theorem znl (V:Valid c) {g:Nat→Nat} (G:Given c ls g):GivenIds c ls ((List.range ls.length).map (fun k=>(hd c (g k)).Id)):=by
 refine ⟨by simp,fun k hk=>⟨g k,(G.ok k hk).1,?_,(G.ok k hk).2⟩,zdC List.nodup_range (fun x hx y hy e=>?_)⟩
 · rw [List.getD_eq_getElem?_getD,List.getElem?_map,List.getElem?_range hk];rfl
 · have hx:=List.mem_range.1 hx
   have hy:=List.mem_range.1 hy
   exact G.inj x y hx hy (id_eq V (G.ok x hx).1 (G.ok y hy).1 e)
end
end Go.Sp
end
/- Plain laws, TopLit: lit in time. No program in sight. -/
section
set_option linter.all false
namespace Go.Sp
open Go.Av
set_option maxRecDepth 100000
theorem zn4:zcx 20000=some true:=by kernel_rfl
theorem zoq (x:gasoliertop_Town) (N:Nat) (hN:N≤9):Wp (zbZ x (N:Int)) (fun r=>∃ s m f k a b g,r=(lb s m f k,ln a b g)∧LawOk s m f k a b g∧(N:Int)≤k):=by
 unfold zbZ
 obtain ⟨s,es,s0,s1⟩:=mod_eq x.Law.x0 (m:=30) (by omega) (by omega)
 obtain ⟨f,ef,f0,f1⟩:=mod_eq x.Law.x2 (m:=20) (by omega) (by omega)
 obtain ⟨m,em,m0,m1⟩:=mod_eq x.Law.x1 (m:=60) (by omega) (by omega)
 obtain ⟨a,ea,a0,a1⟩:=mod_eq x.Night.x0 (m:=20) (by omega) (by omega)
 obtain ⟨g,eg,g0,g1⟩:=mod_eq x.Night.x2 (m:=3) (by omega) (by omega)
 obtain ⟨b,eb,b0,b1⟩:=mod_eq x.Night.x1 (m:=10) (by omega) (by omega)
 refine zaq es (zaq ef (zat (by omega) (zaq em (zat (by omega) (zaq ea (zat (by omega) (zaq eg (zaq eb (zat (by omega) (zap ⟨s,m,f,max (N:Int) 1,300+a,b,g,rfl,⟨by omega,by omega,by omega,by omega,by omega,by omega,by omega⟩,by omega⟩))))))))))
theorem zmf (x:gasoliertop_Town) {s m f k a b g:Int} (H:LawOk s m f k a b g):Wp (zbC x (ln a b g)) (fun t=>(a≤t.Set∧t.Set≤a+b)∧(1080≤t.Rise∧t.Rise≤1085)∧t.Light=0∧(g=1→t.Fog=true)∧(g=0→t.Fog=false)):=by
 have h5:=H.a;have h6:=H.b;have h7:=H.g
 unfold zbC
 have e1:(ln a b g).Set=⟨a,a+b⟩:=rfl
 have e2:(ln a b g).Fog=g:=rfl
 rw [e1,e2]
 obtain ⟨u,eu,u0,u1⟩:=mod_eq x.Night.x3 (m:=a+b - a+1) (by omega) (by omega)
 obtain ⟨v,ev,v0,v1⟩:=mod_eq x.Law.x3 (m:=6) (by omega) (by omega)
 obtain ⟨z,ez,z0,z1⟩:=mod_eq x.Night.x3 (m:=2) (by omega) (by omega)
 refine zat (by dsimp only;omega) (zat (by dsimp only;omega) (zaq eu (zat (by dsimp only;omega) (zaq ev (zat (by omega) ?_)))))
 have fin:∀ y:Int,(fun t:Truth=>(a≤t.Set∧t.Set≤a+b)∧(1080≤t.Rise∧t.Rise≤1085)∧t.Light=0∧(g=1→t.Fog=true)∧(g=0→t.Fog=false)) (⟨a+u,1080+v,0,(decide (g=1)) || ((decide (g=2)) && (decide (y=0)))⟩:Truth):=fun y=>by
  refine ⟨by dsimp only;omega,by dsimp only;omega,rfl,fun e=>?_,fun e=>?_⟩
  · dsimp only;rw [decide_eq_true e];rfl
  · dsimp only;rw [decide_eq_false (by omega),decide_eq_false (by omega)];rfl
 by_cases hg:g=2
 · refine zgJ (by rw [decide_eq_false (by omega),decide_eq_true hg];rfl) ez (zap (fin z))
 · refine zgh (by rw [decide_eq_false hg,Bool.and_false]) rfl (zap (fin _))
structure TaskG (s m f a b g:Int) (j:Nat) (t:Task):Prop where
 lamp:t.Lamp=1+(j:Int)
 place:0≤t.Place∧t.Place<3
 at_:onL s f a b g≤t.At∧t.At≤onH s m f a g
 serve:1≤t.Serve∧t.Serve≤4
theorem TaskG.low {s m f k a b g:Int} (H:LawOk s m f k a b g) {j:Nat} {t:Task} (G:TaskG s m f a b g j t):281≤t.At∧t.At≤430:=by
 have h1:=H.s;have h2:=H.m;have h3:=H.f;have h5:=H.a;have h6:=H.b;have h7:=H.g
 have b1:0≤fogS f g∧fogS f g≤fogM f g∧fogM f g<20:=by unfold fogS fogM;split <;> split <;> omega
 have:=G.at_
 unfold onL onH at this
 omega
theorem zkG (x:gasoliertop_Town) (hw:x.Ways.length≤1000000000000000000) (hl:x.Lamps.length≤1000000000000000000) (hh:x.Hands.length≤1000000000000000000):zbp 20000 x=some true:=by
 refine Wp.eq ?_
 unfold zbp
 obtain ⟨N,hN,hNl,eN⟩:∃ N:Nat,N≤9∧N≤x.Lamps.length∧min ((x.Lamps.length:Nat):Int) 9=(N:Int):=⟨min x.Lamps.length 9,by omega,by omega,by omega⟩
 rw [eN]
 refine zaq zn4 (wp_bind (zmB (by omega) x hw) (fun ct hct=>?_))
 obtain ⟨c,T⟩:=ct
 dsimp only at hct ⊢
 refine wp_bind (zoq x N hN) (fun r hr=>?_)
 obtain ⟨s,m,f,k,a,b,g,rfl,H,hk⟩:=hr
 refine wp_bind (zki hct (by omega)) (fun mm hmm=>?_)
 obtain ⟨M,e⟩:=mm
 obtain ⟨he,hM⟩:=hmm
 dsimp only at he hM
 subst he
 have ek:zbY c T=some 0:=by
  rw [zkg]
  unfold tkE
  rw [zfK hct,zfh hct];rfl
 refine zgJ rfl ek (zgJ rfl (zi0 H) (zay rfl ?_))
 have kk:=H.k
 refine zlu N (by omega) (fun i ts=>ts.length=i∧∀ j,j<i→TaskG s m f a b g j (ts.getD j default)) ⟨rfl,fun j hj=>by omega⟩ (fun i ts K hi hI hK=>?_)
 obtain ⟨t1,t2⟩:=hI
 dsimp only at hK ⊢
 refine zcA (fun hlt=>?_) (fun hge=>?_)
 · have hi':i<N:=by omega
   refine zat (by omega) (zaq (zpI H (by omega)) ?_)
   by_cases ht:onH s m f a g<onL s f a b g
   · rw [if_pos ht];exact zbU rfl (zap rfl)
   rw [if_neg ht]
   have b1:281≤onL s f a b g∧onH s m f a g≤430:=by
    have h1:=H.s;have h2:=H.m;have h3:=H.f;have h5:=H.a;have h6:=H.b;have h7:=H.g
    have b1:0≤fogS f g∧fogS f g≤fogM f g∧fogM f g<20:=by unfold fogS fogM;split <;> split <;> omega
    unfold onL onH;omega
   rw [Int.toNat_natCast]
   obtain ⟨p,ep,p0,p1⟩:=mod_eq (x.Lamps.getD i default).x0 (m:=3) (by omega) (by omega)
   obtain ⟨q,eq,q0,q1⟩:=mod_eq (x.Lamps.getD i default).x1 (m:=onH s m f a g - onL s f a b g+1) (by omega) (by omega)
   obtain ⟨v,ev,v0,v1⟩:=mod_eq (x.Lamps.getD i default).x2 (m:=4) (by omega) (by omega)
   refine zay rfl (zay rfl (zat (by omega) (zae (by omega) (zaq ep (zae (by omega) (zat (by dsimp only;omega) (zat (by dsimp only;omega) (zaq eq (zat (by dsimp only;omega) (zae (by omega) (zaq ev (zat (by omega) (ze7 (by rw [List.length_append,List.length_singleton];omega) (zat (by omega) (hK _ hi' ⟨by rw [List.length_append,List.length_singleton,t1],fun j hj=>?_⟩)))))))))))))))
   rw [zee]
   by_cases hji:j=ts.length
   · rw [if_pos hji]
     exact ⟨by dsimp only;omega,⟨p0,p1⟩,⟨by dsimp only;omega,by dsimp only;omega⟩,⟨by dsimp only;omega,by dsimp only;omega⟩⟩
   · rw [if_neg hji];exact t2 j (by omega)
 have ei:i=N:=by omega
 subst ei
 clear hK K hge
 -- the hands
 refine zlu (min x.Hands.length 6) (by omega) (fun i hs=>hs.length=i∧∀ j,j<i→(hs.getD j default).Id=1+(j:Int)∧0≤(hs.getD j default).From∧(hs.getD j default).From≤(hs.getD j default).To∧(hs.getD j default).To≤1000) ⟨rfl,fun j hj=>by omega⟩ (fun i hs K hi2 hI hK=>?_)
 obtain ⟨g1,g2⟩:=hI
 dsimp only at hK ⊢
 by_cases hlt:i<min x.Hands.length 6
 · refine zbU (by rw [decide_eq_true (show (i:Int)<((x.Hands.length:Nat):Int) by omega),decide_eq_true (show (i:Int)<6 by omega)];rfl) ?_
   rw [Int.toNat_natCast]
   obtain ⟨p,ep,p0,p1⟩:=mod_eq (x.Hands.getD i default).x0 (m:=100) (by omega) (by omega)
   obtain ⟨q,eq,q0,q1⟩:=mod_eq (x.Hands.getD i default).x1 (m:=250) (by omega) (by omega)
   refine zae (by omega) (zaq ep (zat (by omega) (zat (by omega) (zae (by omega) (zaq eq (zat (by omega) (ze7 (by rw [List.length_append,List.length_singleton];omega) (zat (by omega) (hK _ hlt ⟨by rw [List.length_append,List.length_singleton,g1],fun j hj=>?_⟩)))))))))
   rw [zee]
   by_cases hji:j=hs.length
   · rw [if_pos hji];dsimp only;omega
   · rw [if_neg hji];exact g2 j (by omega)
 refine zay ?_ ?_
 · rcases Nat.lt_or_ge i 6 with h|h
   · rw [decide_eq_false (show ¬ (i:Int)<((x.Hands.length:Nat):Int) by omega)];rfl
   · rw [decide_eq_false (show ¬ (i:Int)<6 by omega),Bool.and_false]
 have hs6:hs.length≤6:=by omega
 have g2':∀ j,j<hs.length→(hs.getD j default).Id=1+(j:Int)∧0≤(hs.getD j default).From∧(hs.getD j default).From≤(hs.getD j default).To∧(hs.getD j default).To≤1000:=fun j hj=>g2 j (by omega)
 clear hK K hlt g2 g1 hi2 hi
 -- the crew
 have V:Valid ⟨ts,M,hs⟩:=by
  refine ⟨by dsimp only;omega,by dsimp only;omega,hM.tr,fun j hj=>?_,fun j hj=>?_⟩
  · have hj:j<ts.length:=hj
    have G:=t2 j (by omega)
    have L:=G.low H
    have h1:=G.lamp;have h2:=G.place;have h3:=G.serve
    have e:tk ⟨ts,M,hs⟩ j=ts.getD j default:=rfl
    have e0:tk ⟨ts,M,hs⟩ (j - 1)=ts.getD (j - 1) default:=rfl
    rw [e,e0]
    refine ⟨⟨by omega,by omega,by omega,by omega,by omega,by omega,by omega,by omega⟩,by rw [hM.len];omega,fun h0=>?_⟩
    have:=(t2 (j - 1) (by omega)).lamp
    omega
  · have hj:j<hs.length:=hj
    have G:=g2' j hj
    have e:hd ⟨ts,M,hs⟩ j=hs.getD j default:=rfl
    have e0:hd ⟨ts,M,hs⟩ (j - 1)=hs.getD (j - 1) default:=rfl
    rw [e,e0]
    refine ⟨⟨by omega,by omega,by omega,by omega,by omega⟩,fun h0=>?_⟩
    have:=(g2' (j - 1) (by omega)).1
    omega
 have tkG:∀ j,j<ts.length→TaskG s m f a b g j (tk ⟨ts,M,hs⟩ j):=fun j hj=>t2 j (by omega)
 have eT:(⟨ts,M,hs⟩:Crew).Tasks=ts:=rfl
 have eM:(⟨ts,M,hs⟩:Crew).Travel=M:=rfl
 have eg:∀ j,ts.getD j default=tk ⟨ts,M,hs⟩ j:=fun j=>rfl
 generalize (⟨ts,M,hs⟩:Crew)=C at V tkG eT eM eg ⊢
 refine wp_bind (zmT V (by omega)) (fun r hr=>?_)
 obtain ⟨ls,er⟩:=r
 obtain ⟨r0,A,r2,hF,r4⟩:=hr
 dsimp only at r0 A r2 hF r4 ⊢
 subst r0
 refine wp_bind (cut_wp V (by omega)) (fun sc hsc=>?_)
 obtain ⟨S,es⟩:=sc
 obtain ⟨s0,sC,s2⟩:=hsc
 dsimp only at s0 sC s2 ⊢
 subst s0
 have hnr:nr C Range.Hi≤24:=by
  obtain ⟨S',hS,q⟩:=(zpu V (.inr rfl:zg5 Range.Hi)).1
  have:=zdu hS.nd (r:=List.range C.Tasks.length) (fun y hy=>List.mem_range.2 (hS.lt y hy))
  rw [List.length_range] at this
  have:=V.tasks
  omega
 have hls:ls.length≤24:=by omega
 refine zaq (zf3 C) ?_
 rw [zek V,r2,s2]
 refine zgJ (by simp) (zie C ls hF) ?_
 rw [zoH.2 ⟨V,A⟩]
 refine zgJ (by simp) (zll C S _ (by omega)) ?_
 rw [zoI.2 ⟨V,sC,by omega⟩]
 refine zay (by simp) ?_
 rw [← r2]
 -- what is walked
 refine zaV (fun i ws=>ws.length=i∧∀ q,q<i→WalkOf C 0 (rd ls q) (rd ws q)) ⟨rfl,fun q hq=>by omega⟩ (fun i ws K hi hI hK=>?_) (fun ws hI=>?_)
 · obtain ⟨w1,w2⟩:=hI
   have R:=A.round i hi
   have erd:ls.getD i default=rd ls i:=rfl
   rw [erd]
   have hr4:=r4 i hi
   generalize hr:rd ls i=r at R hr4 ⊢
   have hne:=R.ne
   refine wp_loop (fun st=>∃ n:Nat,st.1=(n:Int)∧1≤n∧n≤r.length∧st.2.length=n - 1∧∀ j,j+1<n→(rg C r j).Lo≤st.2.getD j default∧st.2.getD j default≤(rg C r j).Hi) (fun st=>r.length - st.1.toNat) (by simp only;omega) ⟨1,rfl,by omega,by omega,rfl,fun j hj=>by omega⟩ ?_
   rintro ⟨n0,w⟩ K2 ⟨n,en,n1,n2,n3,n4⟩ hK2
   dsimp only at en n3 n4 hK2 ⊢
   subst en
   refine zcA (fun hlt=>?_) (fun hge=>?_)
   · have hn:n<r.length:=by omega
     have en1:((n:Int) - 1).toNat=n - 1:=by omega
     rw [en1,Int.toNat_natCast]
     have R1:=R.rng (n - 1) (by omega)
     have R2:=R.rng n hn
     obtain ⟨u,hu⟩:=Int.eq_ofNat_of_zero_le R1.1
     obtain ⟨v,hv⟩:=Int.eq_ofNat_of_zero_le R2.1
     rw [hu,hv]
     have hu':u<ts.length:=by rw [← eT];omega
     have hv':v<ts.length:=by rw [← eT];omega
     have erg:rg C r (n - 1)=tv M (tk C u).Place.toNat (tk C v).Place.toNat:=by
      unfold rg rk
      rw [show n - 1+1=n by omega,hu,hv,eM];rfl
     have Gu:=tkG u hu'
     have Gv:=tkG v hv'
     have Lu:=Gu.low H
     have pu:=Gu.place;have pv:=Gv.place;have su:=Gu.serve
     refine zat (by omega) (zae (by omega) (zae (fun _=>by unfold inI;omega) (zae (fun _=>by omega) (zae (fun _=>by omega) (zae (fun _=>by omega) ?_)))))
     refine zay (by rw [← t1,decide_eq_false (show ¬ (u:Int)<0 by omega),decide_eq_false (show ¬ (v:Int)<0 by omega),decide_eq_false (show ¬ ((ts.length:Nat):Int)≤(u:Int) by omega),decide_eq_false (show ¬ ((ts.length:Nat):Int)≤(v:Int) by omega)];rfl) ?_
     rw [Int.toNat_natCast,Int.toNat_natCast,eg u,eg v]
     refine zat (by omega) (zae (by omega) (zae (by omega) (zat (by omega) ?_)))
     obtain ⟨wr,e1,e2,e3,e4⟩:=zkh hct (fuel:=20000) (by omega) (p:=(tk C u).Place) (a:=(tk C u).At+(tk C u).Serve) pu (by omega)
     obtain ⟨wl,we⟩:=wr
     dsimp only at e2 e3 e4
     subst e2
     refine zaq e1 ?_
     dsimp only
     rw [e3]
     have ew:=e4 (tk C v).Place.toNat (by omega)
     have own:=hM.own (tk C u).Place.toNat (tk C v).Place.toNat (by omega) (by omega)
     rw [ew]
     refine zay rfl (zae (by omega) (zae (by omega) (zae (by omega) (zat (by omega) (zat (by omega) (ze7 (by rw [List.length_append,List.length_singleton];omega) (zat (by omega) (hK2 _ ⟨n+1,rfl,by omega,by omega,by rw [List.length_append,List.length_singleton];omega,fun j hj=>?_⟩ (by dsimp only;omega)))))))))
     rw [zee]
     by_cases hj2:j=w.length
     · rw [if_pos hj2]
       have:j=n - 1:=by omega
       rw [this,erg]
       omega
     · rw [if_neg hj2];exact n4 j (by omega)
   · have hn:n=r.length:=by omega
     refine ze7 (by rw [List.length_append,List.length_singleton];omega) (hK _ ⟨by rw [List.length_append,List.length_singleton,w1],fun q hq=>?_⟩)
     unfold rd
     rw [zee]
     by_cases hq2:q=ws.length
     · rw [if_pos hq2]
       have:q=i:=by omega
       subst this
       have hr:ls.getD q default=r:=hr
       rw [hr]
       exact ⟨by omega,fun _ j hj=>n4 j (by omega),fun h=>absurd h (Int.lt_irrefl _)⟩
     · rw [if_neg hq2];exact w2 q (by omega)
 · obtain ⟨w1,w2⟩:=hI
   have hgap:∀ i,i<ls.length→∀ j,j+1<(rd ls i).length→(0:Int)≤gap C Range.Hi (rk (rd ls i) j) (rk (rd ls i) (j+1)):=fun i hi j hj=>zhs (A.round i hi) hj
   have hl0:=zhI V A w2 hgap ls.length (Nat.le_refl _)
   refine zaq (zpz V hF A) ?_
   rw [zej (zpe V A w1 w2),hl0]
   refine zay (by simp [isort]) ?_
   refine wp_bind (zmf x H) (fun tr htr=>?_)
   obtain ⟨x1,x2,x3,x4⟩:=htr
   refine zaN (fun _=>True) (fun i K hi _ hK=>?_) (fun _=>?_)
   · have G:=tkG i hi
     have hL:=G.lamp
     rw [eg i]
     refine zaq (zpN H (by omega)) (zaq (true_eq H (by omega) x1 x2 x3 x4 G.at_) (zay rfl (hK trivial)))
   · refine wp_bind (znR V hF A hls (by omega)) (fun ra hra=>?_)
     refine wp_bind (zoc V hF A hls (by omega)) (fun rs hrs=>?_)
     rcases hra with ⟨hno,rfl⟩|⟨gg,hg,rfl⟩
     · refine zay rfl ?_
       rcases hrs with ⟨hy,_⟩|⟨_,z0,TT⟩
       · exact absurd hy hno
       · have hS:zb2 C ls rs.1=some 0:=by
          rw [zjq V hF A rs.1 (by
           have:=TT.few
           have:(doers C ls rs.1).length≤C.Hands.length:=by unfold doers;exact Nat.le_trans (List.length_filter_le _ _) (by simp)
           have:=V.hands
           omega),zej TT.ok]
         rw [z0]
         exact zgJ rfl hS (zap rfl)
     · have hGg:Given C ls gg:=by
        obtain ⟨g',h1,h2⟩:=hg.ext
        exact ⟨fun k hk=>by rw [← h2 k hk];exact h1.ok k hk,fun k k' hk hk' e=>h1.inj k k' hk hk' (by rw [h2 k hk,h2 k' hk',e])⟩
       have GI:=znl V hGg
       generalize hout:(List.range ls.length).map (fun k=>(hd C (gg k)).Id)=out at GI ⊢
       refine zbU rfl ?_
       rcases hrs with ⟨_,rfl⟩|⟨hno,_⟩
       · exact zgJ rfl ((zif V hF A out).trans (congrArg some (zej GI _ _))) (zap rfl)
       · exact absurd ⟨gg,hGg⟩ hno
end Go.Sp
end
