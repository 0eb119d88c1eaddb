/- Texts of the framework, or of the plain law, one behind another. -/
import Derived.Test.YtakjeajlmlmkeaaGreatFr1
import Derived.Test.YtakjeajlmlmkeaaGreatFr5
import Derived.KernelRfl
/- Rules for plain laws: what a printed definition yields. No program in sight. -/
section
set_option linter.all false
namespace Go.Sp
open Go.Av
def Wp {R:Type} (x:Option R) (P:R→Prop):Prop:=∃ r,x=some r∧P r
theorem Wp.eq {R:Type} {x:Option R} {v:R} (h:Wp x (· = v)):x=some v:=by
 obtain ⟨r,h1,h2⟩:=h;rw [h1,h2]
theorem zaA {R:Type} {r:R} {P:R→Prop} (h:P r):Wp (some r) P:=⟨r,rfl,h⟩
theorem zaq {R:Type} {c:Prop} [Decidable c] {x:Option R} {P:R→Prop} (h:c) (k:Wp x P):Wp (must c x) P:=by
 unfold must;rw [if_pos h];exact k
theorem wp_bind {S R:Type} {x:Option S} {k:S→Option R} {P:R→Prop} {Q:S→Prop} (h:Wp x Q) (hk:∀ s,Q s→Wp (k s) P):Wp (zao x k) P:=by
 obtain ⟨r,h1,h2⟩:=h;rw [h1];exact hk r h2
theorem zaJ {S R:Type} {x:Option S} {k:S→Option R} {P:R→Prop} {v:S} (h:x=some v) (hk:Wp (k v) P):Wp (zao x k) P:=by
 rw [h];exact hk
theorem zcw {R:Type} {b:Bool} {x y:Option R} {P:R→Prop} (h1:b=true→Wp x P) (h2:b=false→Wp y P):Wp (bif b then x else y) P:=by
 cases b
 · exact h2 rfl
 · exact h1 rfl
theorem wp_if {R:Type} {p:Prop} {b:Bool} {x y:Option R} {P:R→Prop} (hb:b=true↔p) (h1:p→Wp x P) (h2:¬ p→Wp y P):Wp (bif b then x else y) P:=
 zcw (fun h=>h1 (hb.1 h)) (fun h=>h2 (fun hp=>by rw [hb.2 hp] at h;cases h))
theorem zb2 {R:Type} {p:Prop} [Decidable p] {x y:Option R} {P:R→Prop} (h1:p→Wp x P) (h2:¬ p→Wp y P):Wp (bif (decide p) then x else y) P:=
 wp_if (decide_eq_true_iff) h1 h2
theorem zfq {R:Type} {p:Prop} [Decidable p] {x y:Option R} {P:R→Prop} (h1:¬ p→Wp x P) (h2:p→Wp y P):Wp (bif (!decide p) then x else y) P:=
 zcw (fun h=>h1 (by simpa using h)) (fun h=>h2 (by simpa using h))
theorem zcI {R:Type} {b:Bool} {x y:Option R} {P:R→Prop} (h:b=true) (h1:Wp x P):Wp (bif b then x else y) P:=by rw [h];exact h1
theorem zbA {R:Type} {b:Bool} {x y:Option R} {P:R→Prop} (h:b=false) (h1:Wp y P):Wp (bif b then x else y) P:=by rw [h];exact h1
theorem zgE {S R:Type} {f:(S→Option R)→Option R} {k:S→Option R} {P:R→Prop} (G:S→Prop) (hf:∀ K:S→Option R,(∀ s,G s→Wp (K s) P)→Wp (f K) P) (hk:∀ s,G s→Wp (k s) P):Wp (ziV f k) P:=hf k hk
theorem zeg {S R:Type} {body:Nat→S→(S→Option R)→Option R} {ex:S→Option R} {n:Nat} {s0:S} {P:R→Prop} (Inv:Nat→S→Prop) (h0:Inv 0 s0)
 (hb:∀ (i:Nat) s (K:S→Option R),i<n→Inv i s→(∀ s',Inv (i+1) s'→Wp (K s') P)→Wp (body i s K) P) (he:∀ s,Inv n s→Wp (ex s) P):Wp (zau body ex n 0 s0) P:=by
 have go:∀ (m i:Nat),i+m=n→∀ s,Inv i s→Wp (zau body ex m i s) P:=by
  intro m
  induction m with
  | zero=>intro i hi s hs;have e:i=n:=(by omega);subst e;exact he s hs
  | succ m ih=>intro i hi s hs;exact hb i s _ (by omega) hs (fun s' h'=>ih (i+1) (by omega) s' h')
 exact go n 0 (by omega) s0 h0
theorem wp_loop {S R:Type} {body:S→(S→Option R)→Option R} {fuel:Nat} {s0:S} {P:R→Prop} (Inv:S→Prop) (μ:S→Nat) (hf:μ s0<fuel) (h0:Inv s0)
 (hb:∀ s (K:S→Option R),Inv s→(∀ s',Inv s'→μ s'<μ s→Wp (K s') P)→Wp (body s K) P):Wp (loopGo body fuel s0) P:=by
 have go:∀ (f:Nat) s,Inv s→μ s<f→Wp (loopGo body f s) P:=by
  intro f
  induction f with
  | zero=>intro s _ h;omega
  | succ f ih=>intro s hs hm;exact hb s _ hs (fun s' h' hl=>ih s' h' (by omega))
 exact go fuel s0 h0 hf
theorem zfz {S R:Type} {body:(Int×S)→((Int×S)→Option R)→Option R} {fuel:Nat} {s0:S} {P:R→Prop} (n:Nat) (hf:n<fuel) (Inv:Nat→S→Prop) (h0:Inv 0 s0)
 (hb:∀ (i:Nat) s (K:(Int×S)→Option R),i≤n→Inv i s→(∀ s',i<n→Inv (i+1) s'→Wp (K ((i:Int)+1,s')) P)→Wp (body ((i:Int),s) K) P):Wp (loopGo body fuel (0,s0)) P:=by
 have go:∀ (f i:Nat) s,i≤n→n - i<f→Inv i s→Wp (loopGo body f ((i:Int),s)) P:=by
  intro f
  induction f with
  | zero=>intro i s _ h;omega
  | succ f ih=>intro i s hi hm hs;exact hb i s _ hi hs (fun s' hl h'=>ih (i+1) s' (by omega) (by omega) h')
 exact go fuel 0 s0 (by omega) (by omega) h0
theorem znE {R:Type} {body:Int→(Int→Option R)→Option R} {fuel:Nat} {P:R→Prop} (n:Nat) (hf:n<fuel) (Inv:Nat→Prop) (h0:Inv 0)
 (hb:∀ (i:Nat) (K:Int→Option R),i≤n→Inv i→(i<n→Inv (i+1)→Wp (K ((i:Int)+1)) P)→Wp (body (i:Int) K) P):Wp (loopGo body fuel 0) P:=by
 have go:∀ (f i:Nat),i≤n→n - i<f→Inv i→Wp (loopGo body f (i:Int)) P:=by
  intro f
  induction f with
  | zero=>intro i _ h;omega
  | succ f ih=>intro i hi hm hs;exact hb i _ hi hs (fun hl h'=>ih (i+1) (by omega) (by omega) h')
 exact go fuel 0 (by omega) (by omega) h0
end Go.Sp
end
/- More rules for plain laws. No program in sight. -/
section
set_option linter.all false
namespace Go.Sp
open Go.Av
theorem zai {R:Type} {n:Int} {x:Option R} {P:R→Prop} (h : -9223372036854775808≤n∧n≤9223372036854775807) (k:Wp x P):Wp (must (inI n) x) P:=zaq h k
theorem za9 {R:Type} {n b:Nat} {x:Option R} {P:R→Prop} (h:n * b≤140737488355328∧n≤9223372036854775807) (k:Wp x P):Wp (must (room n b) x) P:=zaq h k
theorem zkM {S R:Type} [Inhabited S] {W:Bool} {x:Option S} {k:S→Option R} {P:R→Prop} {Q:S→Prop} (h:W=true→Wp x Q) (hk:∀ s,(W=true→Q s)→Wp (k s) P):Wp (zao (bif W then x else some default) k) P:=by
 cases W
 · exact hk _ (fun h=>by cases h)
 · exact wp_bind (h rfl) (fun s hs=>hk s (fun _=>hs))
end Go.Sp
end
/- Rules for plain laws, more of them. No program in sight. -/
section
set_option linter.all false
namespace Go.Sp
open Go.Av
theorem zkN {R:Type} {body:Nat→Unit→(Unit→Option R)→Option R} {ex:Unit→Option R} {n:Nat} {P:R→Prop} (good:Nat→Prop)
 (hb:∀ (i:Nat) (K:Option R),i<n→(∀ j,j<i→good j)→(good i→Wp K P)→Wp (body i () (fun _=>K)) P) (he:(∀ j,j<n→good j)→Wp (ex ()) P):Wp (zau body ex n 0 ()) P:=by
 refine zeg (fun i _=>∀ j,j<i→good j) (fun j hj=>by omega) (fun i s K hi hI hK=>?_) (fun s hs=>he hs)
 have e:K=fun _=>K ():=funext fun u=>rfl
 rw [e]
 exact hb i (K ()) hi hI (fun g=>hK () (fun j hj=>by
  by_cases e:j=i
  · rw [e];exact g
  · exact hI j (by omega)))
theorem wp_ifb {R:Type} {p:Prop} {b:Bool} {x y:Option R} {P:R→Prop} (h0:b=true→p) (h1:b=false→¬ p) (hx:p→Wp x P) (hy:¬ p→Wp y P):Wp (bif b then x else y) P:=
 zcw (fun h=>hx (h0 h)) (fun h=>hy (h1 h))
theorem ze9 {R:Type} {c:Prop} [Decidable c] (h:c) (x:Option R):must c x=x:=if_pos h
theorem zkj {T:Type} (l:List T) (i j:Nat) (x d:T) (hi:i<l.length):(l.set i x).getD j d=if j=i then x else l.getD j d:=by
 simp only [List.getD_eq_getElem?_getD]
 by_cases e:j=i
 · subst e;rw [List.getElem?_set_self hi,if_pos rfl];rfl
 · rw [List.getElem?_set_ne (fun h=>e h.symm),if_neg e]
theorem zcz {T:Type} (l:List T) (x d:T) (i:Nat):(l++[x]).getD i d=if i=l.length then x else l.getD i d:=by
 simp only [List.getD_eq_getElem?_getD]
 rcases Nat.lt_trichotomy i l.length with h|h|h
 · rw [List.getElem?_append_left h,if_neg (by omega)]
 · subst h;simp
 · rw [if_neg (by omega),List.getElem?_eq_none (by simp;omega),List.getElem?_eq_none (by omega)]
theorem zbF {T:Type} [Inhabited T] {l:List T} {i:Nat} (h:i<l.length):l.getD i default∈l:=by
 rw [List.getD_eq_getElem?_getD,List.getElem?_eq_getElem h];exact List.getElem_mem h
theorem zb1 {T:Type} [Inhabited T] {l:List T} {x:T} (h:x∈l):∃ i,i<l.length∧l.getD i default=x:=by
 obtain ⟨i,hi,rfl⟩:=List.getElem_of_mem h
 exact ⟨i,hi,by rw [List.getD_eq_getElem?_getD,List.getElem?_eq_getElem hi];rfl⟩
theorem getD_take {T:Type} (l:List T) (n i:Nat) (d:T):(l.take n).getD i d=if i<n then l.getD i d else d:=by
 simp only [List.getD_eq_getElem?_getD,List.getElem?_take]
 split <;> rfl
theorem getD_drop {T:Type} (l:List T) (n i:Nat) (d:T):(l.drop n).getD i d=l.getD (n+i) d:=by
 simp only [List.getD_eq_getElem?_getD,List.getElem?_drop]
theorem zmW {T:Type} [Inhabited T] {l r:List T} (hl:l.length=r.length) (h:∀ i,i<l.length→l.getD i default=r.getD i default):l=r:=by
 refine List.ext_getElem hl (fun i h1 h2=>?_)
 have:=h i h1
 rw [List.getD_eq_getElem?_getD,List.getD_eq_getElem?_getD,List.getElem?_eq_getElem h1,List.getElem?_eq_getElem h2] at this
 exact this
theorem znt {A:Type} {body:Nat→Unit→(Unit→Option (List A))→Option (List A)} {n:Nat} (W:Nat→Bool) (x:Nat→A)
 (hb:∀ (i:Nat) (r:Option (List A)),i<n→body i () (fun _=>r)=zjO (W i) (x i) r):zau body (fun _=>some []) n 0 ()=some (((List.range' 0 n).filter W).map x):=by
 have go:∀ m i,i+m=n→zau body (fun _=>some []) m i ()=some (((List.range' i m).filter W).map x):=by
  intro m
  induction m with
  | zero=>intro i _;rfl
  | succ m ih=>
   intro i hi
   have e:zau body (fun _=>some []) (m+1) i ()=body i () (fun u=>zau body (fun _=>some []) m (i+1) u):=rfl
   rw [e]
   have e2:(fun u=>zau body (fun _=>some ([]:List A)) m (i+1) u)=fun _=>some (((List.range' (i+1) m).filter W).map x):=by
    funext u;exact ih (i+1) (by omega)
   rw [e2,hb i _ (by omega),List.range'_succ,List.filter_cons]
   cases W i <;> rfl
 exact go n 0 (by omega)
end Go.Sp
end
/- Binary search, and insertion into a sorted list. No program in sight. -/
section
set_option linter.all false
namespace Go.Sp
open Go.Av
theorem zjX {T:Type} [Inhabited T] (f:T→Int) {l:List T} (h:∀ i,0<i→i<l.length→f (l.getD (i - 1) default)<f (l.getD i default)):l.Pairwise (fun a b=>f a<f b):=by
 rw [List.pairwise_iff_getElem]
 intro i j hi hj hij
 have step:∀ k,i+1+k<l.length→f l[i]<f (l.getD (i+1+k) default):=by
  intro k
  induction k with
  | zero=>
   intro hk
   have:=h (i+1) (by omega) hk
   have e:l.getD (i+1 - 1) default=l[i]:=by simp [List.getElem?_eq_getElem hi]
   rw [e] at this;exact this
  | succ k ih=>
   intro hk
   have h1:=ih (by omega)
   have h2:=h (i+1+(k+1)) (by omega) hk
   have e:i+1+(k+1) - 1=i+1+k:=by omega
   rw [e] at h2;omega
 have:=step (j - i - 1) (by omega)
 have e:i+1+(j - i - 1)=j:=by omega
 rw [e] at this
 simpa [List.getElem?_eq_getElem hj] using this
theorem zkQ {T:Type} [Inhabited T] {f:T→Int} {l:List T} (hs:l.Pairwise (fun a b=>f a<f b)) {i j:Nat} (hij:i<j) (hj:j<l.length):f (l.getD i default)<f (l.getD j default):=by
 have:=List.pairwise_iff_getElem.1 hs i j (by omega) hj hij
 simpa [List.getElem?_eq_getElem hj,List.getElem?_eq_getElem (show i<l.length by omega)] using this
end Go.Sp
end
/- slices.IndexFunc and slices.DeleteFunc, as they are printed. No program in sight. -/
section
set_option linter.all false
namespace Go.Sp
open Go.Av
set_option maxRecDepth 100000
theorem zeD {T:Type} [Inhabited T] {p:T→Option Bool} {q:T→Bool} (hp:∀ x,p x=some (q x)) (l:List T) :
 (zau (fun i1 (s1:Unit) k1=>zao (p (l.getD i1 default)) fun y3=>(bif y3 then some (i1:Int) else k1 ())) (fun (s1:Unit)=>some (-1)) l.length 0 ():Option Int)=some (match l.findIdx? q with|some i=>(i:Int)|none=>-1):=by
 refine (zkN (P:=fun r=>r=(match l.findIdx? q with|some i=>(i:Int)|none=>-1)) (fun i=>q (l.getD i default)=false) (fun i K hi hb hK=>?_) (fun h1=>?_)).eq
 · rw [hp]
   refine zcw (fun h=>zaA ?_) (fun h=>hK h)
   have:l.findIdx? q=some i:=by
    rw [List.findIdx?_eq_some_iff_getElem]
    refine ⟨hi,?_,fun j hj=>?_⟩
    · rw [List.getD_eq_getElem?_getD,List.getElem?_eq_getElem hi] at h;exact h
    · have:=hb j hj
      rw [List.getD_eq_getElem?_getD,List.getElem?_eq_getElem (by omega)] at this
      simpa using this
   rw [this]
 · refine zaA ?_
   have:l.findIdx? q=none:=by
    rw [List.findIdx?_eq_none_iff]
    intro x hx
    obtain ⟨i,hi,rfl⟩:=zb1 hx
    exact h1 i hi
   rw [this]
theorem zgG {T:Type} {l:List T} {i:Nat} {x:T} (h:i<l.length):(l.set i x).take (i+1)=l.take i++[x]:=by
 rw [List.take_add_one,List.getElem?_set_self h,List.take_set_of_le (Nat.le_refl _)];rfl
theorem ziB {T:Type} [Inhabited T] (l:List T) (a m:Nat) (f:Nat→T) (h:a≤l.length):(zaE l a m f).take a=l.take a:=by
 refine zmW (by simp [zaE]) (fun i hi=>?_)
 have hi':i<a:=by simp [zaE] at hi;omega
 rw [getD_take,getD_take,if_pos hi',if_pos hi']
 unfold zaE
 rw [List.getD_eq_getElem?_getD,List.getElem?_map,List.getElem?_range (by omega)]
 simp only [Option.map_some,Option.getD_some]
 rw [if_neg (by omega)]
theorem zhj {T:Type} [Inhabited T] {l:List T} {i:Nat} (h:i<l.length):l.drop i=l.getD i default::l.drop (i+1):=by
 rw [List.getD_eq_getElem?_getD,List.getElem?_eq_getElem h];exact List.drop_eq_getElem_cons h
theorem ziA {T:Type} [Inhabited T] {l:List T} {i:Nat} (h:i<l.length):l.take (i+1)=l.take i++[l.getD i default]:=by
 rw [List.take_add_one,List.getD_eq_getElem?_getD,List.getElem?_eq_getElem h];rfl
theorem zfi {T:Type} [Inhabited T] (z:T) {p:T→Option Bool} {q:T→Bool} (hp:∀ x,p x=some (q x)) (l:List T) (fuel:Nat) (hf:l.length<fuel) (hl:l.length<9223372036854775807) :
 (zao (zau (fun i1 (s1:Unit) k1=>zao (p (l.getD i1 default)) fun y3=>(bif y3 then some (i1:Int) else k1 ())) (fun (s1:Unit)=>some (-1)) l.length 0 ():Option Int) fun y1=>(bif (decide (y1=(-1))) then some l else must (inI (y1+1)) <| (loopGo (fun (s5:Int×Int×(List T)) k5=>(bif (decide (s5.2.1<((s5.2.2.length:Nat):Int))) then must (0≤(s5.2.1:Int)∧(s5.2.1:Int)<((s5.2.2.length:Nat):Int)) <| zao (p (s5.2.2.getD (s5.2.1).toNat default)) fun y8=>(bif (!y8) then must (0≤(s5.1:Int)∧(s5.1:Int)<((s5.2.2.length:Nat):Int)) <| must (inI (s5.1+1)) <| must (inI (s5.2.1+1)) <| k5 ((s5.1+1),(s5.2.1+1),(s5.2.2.set (s5.1).toNat (s5.2.2.getD (s5.2.1).toNat default))) else must (inI (s5.2.1+1)) <| k5 (s5.1,(s5.2.1+1),s5.2.2)) else must (0<s5.2.2.length∧0≤(s5.1:Int)∧(s5.1:Int)≤((s5.2.2.length:Nat):Int)) <| must (0<(zaE s5.2.2 ((s5.1).toNat) (s5.2.2.length - (s5.1).toNat) (fun _=>z)).length∧0≤(s5.1:Int)∧(s5.1:Int)≤(((zaE s5.2.2 ((s5.1).toNat) (s5.2.2.length - (s5.1).toNat) (fun _=>z)).length:Nat):Int)) <| some ((zaE s5.2.2 ((s5.1).toNat) (s5.2.2.length - (s5.1).toNat) (fun _=>z)).take ((s5.1).toNat)))) fuel (y1,(y1+1),l))):Option (List T))=some (l.filter (fun x=>!q x)):=by
 rw [zeD hp l]
 refine Wp.eq (zaJ rfl ?_)
 cases hi:l.findIdx? q with
 | none=>
  rw [List.findIdx?_eq_none_iff] at hi
  refine zcI (by simp) (zaA ?_)
  exact (List.filter_eq_self.2 (fun x hx=>by rw [hi x hx];rfl)).symm
 | some i=>
  rw [List.findIdx?_eq_some_iff_getElem] at hi
  obtain ⟨h1,h2,h3⟩:=hi
  refine zbA (by simp) (zai (by simp only;omega) ?_)
  refine wp_loop (fun s=>∃ a b:Nat,s.1=(a:Int)∧s.2.1=(b:Int)∧a<b∧b≤l.length∧s.2.2.length=l.length∧s.2.2.take a=(l.take b).filter (fun x=>!q x)∧s.2.2.drop b=l.drop b) (fun s=>l.length - s.2.1.toNat) (by simp only;omega) ⟨i,i+1,rfl,by simp,by omega,by omega,rfl,?_,rfl⟩ ?_
  · rw [ziA h1,List.filter_append]
    have e1:(l.take i).filter (fun x=>!q x)=l.take i:=List.filter_eq_self.2 (fun x hx=>by
     obtain ⟨j,hj,rfl⟩:=List.getElem_of_mem hx
     have hj':j<i:=by simp at hj;omega
     have:=h3 j hj'
     simp only [List.getElem_take]
     simpa using this)
    have e2:q (l.getD i default)=true:=by rw [List.getD_eq_getElem?_getD,List.getElem?_eq_getElem h1];exact h2
    rw [e1];simp [e2,-List.getD_eq_getElem?_getD]
  · rintro ⟨s1,s2,s3⟩ K ⟨a,b,rfl,rfl,hab,hb,hlen,ht,hd⟩ hK
    simp only at hK ht hd hlen ⊢
    refine zb2 (fun hlt=>?_) (fun hge=>?_)
    · have hbl:b<l.length:=by omega
      refine zaq (by omega) ?_
      rw [hp]
      simp only [Int.toNat_natCast]
      have ex:s3.getD b default=l.getD b default:=by
       have:=zhj (l:=s3) (i:=b) (by omega)
       rw [hd,zhj hbl] at this
       exact (List.cons.inj this).1.symm
      have hd1:s3.drop (b+1)=l.drop (b+1):=by
       have:=zhj (l:=s3) (i:=b) (by omega)
       rw [hd,zhj hbl] at this
       exact (List.cons.inj this).2.symm
      refine zaJ rfl ?_
      rw [ex]
      refine zcw (fun hq=>?_) (fun hq=>?_)
      · refine zaq (by omega) (zai (by omega) (zai (by omega) ?_))
        refine hK _ ⟨a+1,b+1,by simp,by simp,by omega,by omega,by simp [hlen],?_,?_⟩ (by simp only;omega)
        · rw [zgG (by omega),ht,ziA hbl,List.filter_append]
          simp only [Bool.not_eq_true'] at hq
          simp [hq,-List.getD_eq_getElem?_getD]
        · rw [List.drop_set_of_lt (by omega)];exact hd1
      · refine zai (by omega) (hK _ ⟨a,b+1,rfl,by simp,by omega,by omega,hlen,?_,hd1⟩ (by simp only;omega))
        rw [ht,ziA hbl,List.filter_append]
        simp only [Bool.not_eq_false'] at hq
        simp [hq,-List.getD_eq_getElem?_getD]
    · refine zaq (by omega) (zaq ?_ (zaA ?_))
      · rw [zbE];omega
      · simp only [Int.toNat_natCast]
        rw [ziB _ _ _ _ (by omega),ht,List.take_of_length_le (by omega)]
end Go.Sp
end
/- Plain laws, mantle: valid batches, mantles, burns, looks and wears, checked by both. No program in sight. -/
section
set_option linter.all false
namespace Go.Sp
open Go.Av
set_option maxRecDepth 100000
structure BatchOk (b:Batch):Prop where
 id:1≤b.Id∧b.Id≤99
 life:0≤b.Life.Lo∧b.Life.Lo≤b.Life.Hi∧b.Life.Hi≤1000000
structure ToldOk (s l n k u:Int):Prop where
 src:1≤s∧s≤99999
 lamp:1≤l∧l≤999
 night:0≤n∧n≤100000
 known:0≤k∧k≤100000
 til:u=0∨(k<u∧u≤100000)
structure MantleOk (m:Mantle):Prop where
 told:ToldOk m.Source m.Lamp m.Night m.Known m.Until
 batch:1≤m.Batch∧m.Batch≤99
structure BurnOk (b:Burn):Prop where
 told:ToldOk b.Source b.Lamp b.Night b.Known b.Until
 min:0≤b.Minutes.Lo∧b.Minutes.Lo≤b.Minutes.Hi∧b.Minutes.Hi≤1440
def zlF (l:Look):Prop:=ToldOk l.Source l.Lamp l.Night l.Known l.Until
theorem mwithin {a b c:Int}:zaK a b c=(decide (b≤a) && decide (a≤c)):=rfl
theorem bif0 (b:Bool) {c:Int} (hc:c≠0):((bif b then c else 0)=0)↔b=false:=by cases b <;> simp [-List.getD_eq_getElem?_getD,hc]
theorem zoP (b:Bool) (c:Int):(bif b then c else 0)=0∨(bif b then c else 0)=c:=by cases b <;> simp [-List.getD_eq_getElem?_getD]
theorem zgb {n k u:Int}:za1 n k u=true↔(0≤n∧n≤100000)∧(0≤k∧k≤100000)∧(u=0∨(k<u∧u≤100000)):=by
 simp only [za1,zaL,mwithin,Bool.and_eq_true,Bool.or_eq_true,decide_eq_true_eq]
 omega
theorem ziR {b:Batch}:zaV b=0↔BatchOk b:=by
 unfold zaV
 rw [bif0 _ (by decide)]
 simp only [zbC,mwithin,Bool.or_eq_false_iff,Bool.not_eq_false',Bool.and_eq_true,decide_eq_true_eq]
 exact ⟨fun h=>⟨h.1,by omega⟩,fun h=>⟨h.id,by have:=h.life;omega⟩⟩
theorem zk5 {m:Mantle}:za8 m=0↔MantleOk m:=by
 unfold za8
 rw [bif0 _ (by decide)]
 simp only [zaY,zaN,mwithin,Bool.or_eq_false_iff,Bool.not_eq_false',Bool.and_eq_true,decide_eq_true_eq,zgb]
 exact ⟨fun h=>⟨⟨h.1.1.1,h.1.1.2,h.2.1,h.2.2.1,h.2.2.2⟩,h.1.2⟩,fun h=>⟨⟨⟨h.told.src,h.told.lamp⟩,h.batch⟩,h.told.night,h.told.known,h.told.til⟩⟩
theorem zni {m:Burn}:zbq m=0↔BurnOk m:=by
 unfold zbq
 rw [bif0 _ (by decide)]
 simp only [zaY,zaN,zbC,mwithin,Bool.or_eq_false_iff,Bool.not_eq_false',Bool.and_eq_true,decide_eq_true_eq,zgb]
 exact ⟨fun h=>⟨⟨h.1.1.1,h.1.1.2,h.2.1,h.2.2.1,h.2.2.2⟩,by have:=h.1.2;omega⟩,fun h=>⟨⟨⟨h.told.src,h.told.lamp⟩,by have:=h.min;omega⟩,h.told.night,h.told.known,h.told.til⟩⟩
theorem znh {m:Look}:za2 m=0↔zlF m:=by
 unfold za2
 rw [bif0 _ (by decide)]
 simp only [zaY,zaN,mwithin,Bool.or_eq_false_iff,Bool.not_eq_false',Bool.and_eq_true,decide_eq_true_eq,zgb]
 exact ⟨fun h=>⟨h.1.1,h.1.2,h.2.1,h.2.2.1,h.2.2.2⟩,fun h=>⟨⟨h.src,h.lamp⟩,h.night,h.known,h.til⟩⟩
theorem zpV (b:Batch):zbg b=zaV b:=by
 have h:zbg b=0↔BatchOk b:=by
  unfold zbg
  rw [bif0 _ (by decide)]
  simp only [zcA,Bool.or_eq_false_iff,Bool.not_eq_false',Bool.and_eq_true,decide_eq_true_eq,decide_eq_false_iff_not]
  exact ⟨fun h=>⟨h.1.1,by omega⟩,fun h=>⟨⟨h.id,by have:=h.life;omega⟩,by have:=h.life;omega⟩⟩
 rw [← ziR] at h
 have h1:=zoP (((!(zcA b.Id 1 99)) || (!(zcA b.Life.Lo 0 b.Life.Hi))) || (decide (1000000<b.Life.Hi))) 60
 have h2:=zoP ((!(zaK b.Id 1 99)) || (!(zbC b.Life 1000000))) 60
 change zbg b=0∨zbg b=60 at h1
 change zaV b=0∨zaV b=60 at h2
 omega
def zfp {T:Type} [Inhabited T] (ok:T→Prop) (num:T→Int) (l:List T):Prop:=∀ i,i<l.length→ok (l.getD i default)∧(0<i→num (l.getD (i - 1) default)<num (l.getD i default))
theorem zgs {T:Type} [Inhabited T] {chk num:T→Int} {ok:T→Prop} (hok:∀ x,chk x=0↔ok x) {l:List T} {p1:Int} (hl:l.length≤9223372036854775807) :
 Wp (zau (fun i1 (s1:Unit) k1=>zao ((fun x0=>some (chk x0)) (l.getD i1 default)) fun y3=>must ((((!(!decide (y3=0))) && (decide (0<(i1:Int))))=true→(inI ((i1:Int) - 1)))) <| must ((((!(!decide (y3=0))) && (decide (0<(i1:Int))))=true→(0≤(((i1:Int) - 1):Int)∧(((i1:Int) - 1):Int)<((l.length:Nat):Int)))) <| zao ((bif ((!(!decide (y3=0))) && (decide (0<(i1:Int)))) then (fun x0=>some (num x0)) (l.getD (((i1:Int) - 1)).toNat default) else some default)) fun y7=>zao ((bif ((!(!decide (y3=0))) && (decide (0<(i1:Int)))) then (fun x0=>some (num x0)) (l.getD i1 default) else some default)) fun y9=>(bif ((!decide (y3=0)) || ((decide (0<(i1:Int))) && (decide (y9≤y7)))) then some false else k1 ())) (fun (s1:Unit)=>some (decide (((l.length:Nat):Int)≤p1))) l.length 0 ():Option Bool)
  (fun b=>b=true↔zfp ok num l∧(l.length:Int)≤p1):=by
 refine zkN (fun i=>ok (l.getD i default)∧(0<i→num (l.getD (i - 1) default)<num (l.getD i default))) (fun i K hi _ hK=>?_) (fun h1=>zaA ?_)
 · refine zaJ rfl ?_
   refine zaq (fun _=>by unfold inI;omega) ?_
   refine zaq (fun h=>by simp [-List.getD_eq_getElem?_getD] at h;omega) ?_
   have e:(((i:Int) - 1)).toNat=i - 1:=by omega
   rw [e]
   refine zkM (Q:=fun y=>y=num (l.getD (i - 1) default)) (fun _=>zaA rfl) (fun y7 h7=>?_)
   refine zkM (Q:=fun y=>y=num (l.getD i default)) (fun _=>zaA rfl) (fun y9 h9=>?_)
   by_cases hc:chk (l.getD i default)=0
   · by_cases h0:0<i
     · have hW:((!(!decide (chk (l.getD i default)=0))) && (decide (0<(i:Int))))=true:=by simp [-List.getD_eq_getElem?_getD,hc,h0]
       rw [h7 hW,h9 hW]
       refine zcw (fun hb=>zaA ?_) (fun hb=>hK ⟨(hok _).1 hc,fun _=>?_⟩)
       · simp only [hc,decide_true,Bool.not_true,Bool.false_or,Bool.and_eq_true,decide_eq_true_eq] at hb
         refine ⟨fun h=>(by cases h),fun h=>?_⟩
         have:=(h.1 i hi).2 h0;omega
       · simp only [hc,decide_true,Bool.not_true,Bool.false_or,Bool.and_eq_false_iff,decide_eq_false_iff_not] at hb
         omega
     · refine zbA (by simp [-List.getD_eq_getElem?_getD,hc];omega) (hK ⟨(hok _).1 hc,fun h=>absurd h h0⟩)
   · refine zcI (by simp [-List.getD_eq_getElem?_getD,hc]) (zaA ⟨fun h=>(by cases h),fun h=>absurd ((hok _).2 (h.1 i hi).1) hc⟩)
 · simp only [decide_eq_true_eq]
   exact ⟨fun h=>⟨h1,h⟩,fun h=>h.2⟩
structure WearOk (w:Wear):Prop where
 nb:w.Batches.length≤8
 nm:w.Mantles.length≤60
 nu:w.Burns.length≤60
 nl:w.Looks.length≤60
 ba:zfp BatchOk (·.Id) w.Batches
 ma:zfp MantleOk (·.Source) w.Mantles
 bu:zfp BurnOk (·.Source) w.Burns
 lo:zfp zlF (·.Source) w.Looks
 has:∀ i,i<w.Mantles.length→∃ j,j<w.Batches.length∧(w.Batches.getD j default).Id=(w.Mantles.getD i default).Batch
structure Fits (w:Wear):Prop where
 b:w.Batches.length≤4611686018427387904
 m:w.Mantles.length≤4611686018427387904
 u:w.Burns.length≤4611686018427387904
 l:w.Looks.length≤4611686018427387904
theorem WearOk.fits {w:Wear} (h:WearOk w):Fits w:=⟨by have:=h.nb;omega,by have:=h.nm;omega,by have:=h.nu;omega,by have:=h.nl;omega⟩
def ze2 (w:Wear) (id:Int):Int:=match w.Batches.findIdx? (fun b=>decide (b.Id=id)) with
 | some i=>(i:Int)
 | none=>-1
theorem zhP (w:Wear) (id:Int):zbS w id=some (ze2 w id):=by
 unfold zbS zbZ
 rw [zeD (p:=fun x0=>some (zb4 x0 id)) (q:=fun b=>decide (b.Id=id)) (fun x=>rfl)]
 rfl
theorem zhQ {w:Wear} {id:Int}:ze2 w id<0↔¬ ∃ j,j<w.Batches.length∧(w.Batches.getD j default).Id=id:=by
 unfold ze2
 cases h:w.Batches.findIdx? (fun b=>decide (b.Id=id)) with
 | none=>
  rw [List.findIdx?_eq_none_iff] at h
  simp only [Int.reduceNeg,Int.reduceLT,true_iff]
  rintro ⟨j,hj,e⟩
  have:=h _ (zbF hj)
  simp [-List.getD_eq_getElem?_getD,e] at this
 | some i=>
  rw [List.findIdx?_eq_some_iff_getElem] at h
  obtain ⟨h1,h2,h3⟩:=h
  refine ⟨fun h=>by simp [-List.getD_eq_getElem?_getD] at h;omega,fun h=>absurd ⟨i,h1,?_⟩ h⟩
  rw [List.getD_eq_getElem?_getD,List.getElem?_eq_getElem h1]
  simpa [-List.getD_eq_getElem?_getD] using h2
theorem zoQ (w:Wear) (id:Int):ze2 w id<(w.Batches.length:Int):=by
 unfold ze2
 cases h:w.Batches.findIdx? (fun b=>decide (b.Id=id)) with
 | none=>simp [-List.getD_eq_getElem?_getD];omega
 | some i=>
  rw [List.findIdx?_eq_some_iff_getElem] at h
  obtain ⟨h1,h2,h3⟩:=h
  simp [-List.getD_eq_getElem?_getD];omega
theorem zfp.sorted {T:Type} [Inhabited T] {ok:T→Prop} {num:T→Int} {l:List T} (h:zfp ok num l):l.Pairwise (fun a b=>num a<num b):=zjX num (fun i h0 hi=>(h i hi).2 h0)
theorem zfp.ok {T:Type} [Inhabited T] {ok:T→Prop} {num:T→Int} {l:List T} (h:zfp ok num l) {x:T} (hx:x∈l):ok x:=by
 obtain ⟨i,hi,rfl⟩:=zb1 hx
 exact (h i hi).1
theorem zk4 {w:Wear} (hf:Fits w):Wp (zbT w) (fun r=>(WearOk w∧r=0)∨(¬ WearOk w∧r=64)):=by
 unfold zbT
 have a1:=zgs (chk:=zaV) (num:=zcH) (fun _=>ziR) (l:=w.Batches) (p1:=8) (by have:=hf.b;omega)
 have a2:=zgs (chk:=za8) (num:=zcG) (fun _=>zk5) (l:=w.Mantles) (p1:=60) (by have:=hf.m;omega)
 have a3:=zgs (chk:=zbq) (num:=zcF) (fun _=>zni) (l:=w.Burns) (p1:=60) (by have:=hf.u;omega)
 have a4:=zgs (chk:=za2) (num:=zc3) (fun _=>znh) (l:=w.Looks) (p1:=60) (by have:=hf.l;omega)
 refine wp_bind (x:=zci w.Batches 8 _ _) a1 (fun y1 h1=>?_)
 refine wp_bind (x:=zcb w.Mantles 60 _ _) a2 (fun y3 h3=>?_)
 refine wp_bind (x:=zcu w.Burns 60 _ _) a3 (fun y5 h5=>?_)
 refine zkM (Q:=fun y=>y=true↔zfp zlF (·.Source) w.Looks∧(w.Looks.length:Int)≤60) (fun _=>a4) (fun y7 h7=>?_)
 refine zkM (Q:=fun y=>y=false↔∀ i,i<w.Mantles.length→∃ j,j<w.Batches.length∧(w.Batches.getD j default).Id=(w.Mantles.getD i default).Batch) (fun _=>?_) (fun y9 h9=>?_)
 · unfold zbt zbj
   rw [zeD (p:=fun x0=>zcE x0 w) (q:=fun m=>decide (ze2 w m.Batch<0)) (fun x=>by
    unfold zcE;rw [zhP];rfl)]
   refine zaJ rfl (zaA ?_)
   cases h:w.Mantles.findIdx? (fun m=>decide (ze2 w m.Batch<0)) with
   | none=>
    rw [List.findIdx?_eq_none_iff] at h
    refine ⟨fun _ i hi=>?_,fun _=>rfl⟩
    have:=h _ (zbF hi)
    simp only [decide_eq_false_iff_not,zhQ,Classical.not_not] at this
    exact this
   | some i=>
    rw [List.findIdx?_eq_some_iff_getElem] at h
    obtain ⟨k1,k2,k3⟩:=h
    refine ⟨fun e=>(by simp [-List.getD_eq_getElem?_getD] at e),fun e=>?_⟩
    have:=e i k1
    rw [List.getD_eq_getElem?_getD (l:=w.Mantles),List.getElem?_eq_getElem k1] at this
    simp only [decide_eq_true_eq,zhQ] at k2
    exact absurd this k2
 · refine zcw (fun hb=>zaA (.inr ⟨fun V=>?_,rfl⟩)) (fun hb=>zaA (.inl ⟨?_,rfl⟩))
   · have e1:=h1.2 ⟨V.ba,by have:=V.nb;omega⟩
     have e3:=h3.2 ⟨V.ma,by have:=V.nm;omega⟩
     have e5:=h5.2 ⟨V.bu,by have:=V.nu;omega⟩
     have e7:=(h7 (by simp [-List.getD_eq_getElem?_getD,e1,e3,e5])).2 ⟨V.lo,by have:=V.nl;omega⟩
     have e9:=(h9 (by simp [-List.getD_eq_getElem?_getD,e1,e3,e5,e7])).2 V.has
     simp [-List.getD_eq_getElem?_getD,e1,e3,e5,e7,e9] at hb
   · simp only [Bool.or_eq_false_iff,Bool.not_eq_false'] at hb
     obtain ⟨⟨⟨⟨e1,e3⟩,e5⟩,e7⟩,e9⟩:=hb
     have f7:=(h7 (by simp [-List.getD_eq_getElem?_getD,e1,e3,e5])).1 e7
     have f9:=(h9 (by simp [-List.getD_eq_getElem?_getD,e1,e3,e5,e7])).1 e9
     have f1:=h1.1 e1
     have f3:=h3.1 e3
     have f5:=h5.1 e5
     exact ⟨by omega,by omega,by omega,by omega,f1.1,f3.1,f5.1,f7.1,f9⟩
theorem ziQ {w:Wear} (h:WearOk w):zbT w=some 0:=by
 obtain ⟨r,e,h1|h1⟩:=zk4 h.fits
 · rw [e,h1.2]
 · exact absurd h h1.1
theorem zng {w:Wear} (hf:Fits w) (h:¬ WearOk w):zbT w=some 64:=by
 obtain ⟨r,e,h1|h1⟩:=zk4 hf
 · exact absurd h1.1 h
 · rw [e,h1.2]
end Go.Sp
end
/- Plain laws, mantle: the document's check; one look more, by both; MantleChecks. No program in sight. -/
section
set_option linter.all false
namespace Go.Sp
open Go.Av
set_option maxRecDepth 100000
theorem znD {R:Type} {body:Int→(Int→Option R)→Option R} {fuel:Nat} {P:R→Prop} {n:Nat} (hf:n<fuel) (good:Nat→Prop)
 (hb:∀ (i:Nat) (K:Int→Option R),i<n→(∀ j,j<i→good j)→(good i→Wp (K ((i:Int)+1)) P)→Wp (body (i:Int) K) P) (he:(∀ j,j<n→good j)→∀ K,Wp (body (n:Int) K) P):Wp (loopGo body fuel 0) P:=by
 refine znE n hf (fun i=>∀ j,j<i→good j) (fun j hj=>by omega) (fun i K hi hI hK=>?_)
 by_cases e:i=n
 · subst e;exact he hI K
 · exact hb i K (by omega) hI (fun g=>hK (by omega) (fun j hj=>by
    by_cases e:j=i
    · rw [e];exact g
    · exact hI j (by omega)))
end Go.Sp
end
/- Plain laws, mantle: the chapter's examples. -/
section
set_option linter.all false
namespace Go.Sp
open Go.Av
theorem znI:zdD 20000=some true:=by kernel_rfl
end Go.Sp
end
/- Plain laws, mantle: one look more, by both; MantleChecks. No program in sight. -/
section
set_option linter.all false
namespace Go.Sp
open Go.Av
set_option maxRecDepth 100000
theorem cmpI (a b:Int):zbo a b=if a<b then -1 else if b<a then 1 else 0:=by
 unfold zbo cmp_isNaN_int
 by_cases h1:a<b
 · simp [-List.getD_eq_getElem?_getD,h1]
 · by_cases h2:b<a <;> simp [-List.getD_eq_getElem?_getD,h1,h2]
structure InsAt (l:List Look) (x:Look) (k:Nat):Prop where
 le:k≤l.length
 lo:∀ i,i<k→(l.getD i default).Source<x.Source
 hi:∀ i,k≤i→i<l.length→¬ (l.getD i default).Source<x.Source
def zoG:Wear:=⟨[],[],[],[]⟩
end Go.Sp
end
/- Plain laws: slices.SortStableFunc on ints ends, and what it leaves is a rearrangement. No program in sight. -/
section
set_option linter.all false
namespace Go.Sp
open Go.Av
set_option maxRecDepth 100000
theorem swap_perm {l s:List Int} (h:s.Perm l) {i j:Int} (hi:0≤i∧i<(s.length:Int)) (hj:0≤j∧j<(s.length:Int)) :
 ((s.set i.toNat (s.getD j.toNat default)).set j.toNat (s.getD i.toNat default)).Perm l:=by
 have h1:i.toNat<s.length:=by omega
 have h2:j.toNat<s.length:=by omega
 rw [List.getD_eq_getElem?_getD,List.getElem?_eq_getElem h2,List.getD_eq_getElem?_getD,List.getElem?_eq_getElem h1]
 exact (List.set_set_perm h1 h2).trans h
theorem half {x:Int} (h:0≤x):Int.fdiv x (2 ^ (1:Int).toNat)=x / 2:=by
 rw [show (1:Int).toNat=1 from rfl,Int.fdiv_eq_ediv_of_nonneg _ (by decide)];rfl
theorem ziP {l s:List Int} (h:s.Perm l) {i:Nat} (hi:i<s.length):s.getD i default∈l:=h.mem_iff.1 (zbF hi)
def Cmp (l:List Int) (c:Int→Int→Option Int):Prop:=∀ a∈l,∀ b∈l,∃ r,c a b=some r
theorem Cmp.perm {l s:List Int} {c:Int→Int→Option Int} (H:Cmp l c) (h:s.Perm l):Cmp s c:=fun a ha b hb=>H a (h.mem_iff.1 ha) b (h.mem_iff.1 hb)
theorem zh1 {fuel:Nat} (hf:1000≤fuel) {l:List Int} (hl:l.length≤100) {c:Int→Int→Option Int} (H:Cmp l c) {a b:Int} (ha:0≤a∧a≤1000) (hb:b≤(l.length:Int)) :
 Wp (zaM fuel l a b c) (fun r=>r.Perm l):=by
 unfold zaM
 refine zai (by omega) ?_
 refine wp_loop (fun s=>a<s.1∧s.2.Perm l) (fun s=>(b - s.1).toNat) (by simp only;omega) ⟨by simp only;omega,.refl _⟩ (fun s K hI hK=>?_)
 obtain ⟨i,s⟩:=s
 obtain ⟨h1,h2⟩:=hI
 simp only at h1 h2 hK ⊢
 refine zb2 (fun hlt=>?_) (fun _=>zaA h2)
 refine wp_loop (fun t=>a≤t.1∧t.1≤i∧t.2.Perm l) (fun t=>(t.1 - a).toNat) (by simp only;omega) ⟨by simp only;omega,by simp only;omega,h2⟩ (fun t K2 hI2 hK2=>?_)
 obtain ⟨j,t⟩:=t
 obtain ⟨g1,g2,g3⟩:=hI2
 simp only at g1 g2 g3 hK2 ⊢
 have hlen:=g3.length_eq
 refine zaq (fun h=>by have:=of_decide_eq_true h;omega) (zaq (fun h=>by unfold inI;omega) (zaq (fun h=>by have:=of_decide_eq_true h;omega) ?_))
 refine zkM (Q:=fun _=>True) (fun h=>?_) (fun y _=>?_)
 · have:=of_decide_eq_true h
   obtain ⟨r,e⟩:=H _ (ziP g3 (i:=j.toNat) (by omega)) _ (ziP g3 (i:=(j - 1).toNat) (by omega))
   exact ⟨r,e,trivial⟩
 refine zcw (fun h=>?_) (fun h=>zai (by omega) (hK _ ⟨by simp only;omega,g3⟩ (by simp only;omega)))
 simp only [Bool.and_eq_true,decide_eq_true_eq] at h
 refine zai (by omega) (zai (by omega) (zaq (by omega) (zaq (by omega) (zaq (by omega) (zaq (by rw [List.length_set];omega) (zai (by omega) ?_))))))
 exact hK2 _ ⟨by simp only;omega,by simp only;omega,swap_perm g3 (by omega) (by omega)⟩ (by simp only;omega)
theorem zfC {fuel:Nat} (hf:1000≤fuel) {l:List Int} (hl:l.length≤100) {c:Int→Int→Option Int} {a b n:Int} (ha:0≤a) (hb:0≤b) (han:a+n≤(l.length:Int)) (hbn:b+n≤(l.length:Int)) :
 Wp (zaO fuel l a b n c) (fun r=>r.Perm l):=by
 unfold zaO
 refine wp_loop (fun s=>0≤s.1∧s.2.Perm l) (fun s=>(n - s.1).toNat) (by simp only;omega) ⟨by simp [-List.getD_eq_getElem?_getD],.refl _⟩ (fun s K hI hK=>?_)
 obtain ⟨i,s⟩:=s
 obtain ⟨h1,h2⟩:=hI
 simp only at h1 h2 hK ⊢
 have hlen:=h2.length_eq
 refine zb2 (fun hlt=>?_) (fun _=>zaA h2)
 refine zai (by omega) (zai (by omega) (zai (by omega) (zaq (by omega) (zai (by omega) (zaq (by omega) (zaq (by omega) (zaq (by rw [List.length_set];omega) (zai (by omega) ?_))))))))
 exact hK _ ⟨by simp only;omega,swap_perm h2 (by omega) (by omega)⟩ (by simp only;omega)
theorem znN {fuel:Nat} (hf:1000≤fuel) {l:List Int} (hl:l.length≤100) {c:Int→Int→Option Int} {a m b:Int} (ha:0≤a) (ham:a<m) (hmb:m<b) (hb:b≤(l.length:Int)) :
 Wp (za5 fuel l a m b c) (fun r=>r.Perm l):=by
 unfold za5
 refine zai (by omega) (zai (by omega) ?_)
 refine wp_loop (fun s=>1≤s.1∧s.1≤m - a∧1≤s.2.1∧s.2.1≤b - m∧s.2.2.Perm l) (fun s=>(s.1+s.2.1).toNat) (by simp only;omega) ⟨by simp only;omega,by simp only;omega,by simp only;omega,by simp only;omega,.refl _⟩ (fun s K hI hK=>?_)
 obtain ⟨i,j,s⟩:=s
 obtain ⟨h1,h2,h3,h4,h5⟩:=hI
 simp only at h1 h2 h3 h4 h5 hK ⊢
 have hlen:=h5.length_eq
 refine zfq (fun hne=>?_) (fun he=>?_)
 · refine zb2 (fun hlt=>?_) (fun hge=>?_)
   · refine zai (by omega) (wp_bind (zfC hf (by omega) (by omega) (by omega) (by omega) (by omega)) (fun y hy=>zaq hy.length_eq (zai (by omega) (hK _ ⟨by simp only;omega,by simp only;omega,by simp only;omega,by simp only;omega,hy.trans h5⟩ (by simp only;omega)))))
   · refine zai (by omega) (zai (by omega) (zai (by omega) (wp_bind (zfC hf (by omega) (by omega) (by omega) (by omega) (by omega)) (fun y hy=>zaq hy.length_eq (zai (by omega) (hK _ ⟨by simp only;omega,by simp only;omega,by simp only;omega,by simp only;omega,hy.trans h5⟩ (by simp only;omega)))))))
 · exact zai (by omega) (wp_bind (zfC hf (by omega) (by omega) (by omega) (by omega) (by omega)) (fun y hy=>zaA (hy.trans h5)))
theorem ze4 {fuel:Nat} (hf:1000≤fuel) {c:Int→Int→Option Int}:∀ (n:Nat) {l:List Int},l.length≤100→Cmp l c→∀ {a m b:Int},0≤a→a<m→m<b→b≤(l.length:Int)→(b - a).toNat<n →
 Wp (zaP fuel n l a m b c) (fun r=>r.Perm l)
 | 0,l,_,_,a,m,b,_,_,_,_,hn=>absurd hn (Nat.not_lt_zero _)
 | n+1,l,hl,H,a,m,b,ha,ham,hmb,hb,hn=>by
  show Wp (zaW fuel (zaP fuel n) l a m b c) _
  unfold zaW
  have hc:∀ i j:Int,0≤i→i<(l.length:Int)→0≤j→j<(l.length:Int)→Wp (c (l.getD i.toNat default) (l.getD j.toNat default)) (fun _=>True):=fun i j h1 h2 h3 h4=>by
   obtain ⟨r,e⟩:=H _ (zbF (l:=l) (i:=i.toNat) (by omega)) _ (zbF (l:=l) (i:=j.toNat) (by omega))
   exact ⟨r,e,trivial⟩
  refine zai (by omega) ?_
  refine zb2 (fun e1=>?_) (fun e1=>?_)
  · refine wp_loop (fun s=>m≤s.1∧s.1≤s.2∧s.2≤b) (fun s=>(s.2 - s.1).toNat) (by simp only;omega) ⟨by simp only;omega,by simp only;omega,by simp [-List.getD_eq_getElem?_getD]⟩ (fun s K hI hK=>?_)
    obtain ⟨i,j⟩:=s
    obtain ⟨h1,h2,h3⟩:=hI
    simp only at h1 h2 h3 hK ⊢
    refine zb2 (fun hlt=>?_) (fun hge=>?_)
    · rw [half (by omega)]
      refine zai (by omega) (zaq (by unfold inU;omega) (zai (by omega) (zaq (by omega) (zaq (by omega) (wp_bind (hc _ _ (by omega) (by omega) (by omega) (by omega)) (fun y _=>?_))))))
      refine zb2 (fun _=>zai (by omega) (hK _ ⟨by simp only;omega,by simp only;omega,by simp only;omega⟩ (by simp only;omega))) (fun _=>hK _ ⟨by simp only;omega,by simp only;omega,by simp only;omega⟩ (by simp only;omega))
    · refine wp_loop (fun s=>0≤s.1∧s.2.Perm l) (fun s=>(b - s.1).toNat) (by simp only;omega) ⟨by simp only;omega,.refl _⟩ (fun s K2 hI2 hK2=>?_)
      obtain ⟨k,s⟩:=s
      obtain ⟨g1,g2⟩:=hI2
      simp only at g1 g2 hK2 ⊢
      have hlen:=g2.length_eq
      refine zai (by omega) (zb2 (fun hk=>?_) (fun _=>zaA g2))
      refine zai (by omega) (zai (by omega) (zaq (by omega) (zaq (by omega) (zaq (by omega) (zaq (by rw [List.length_set];omega) (zai (by omega) ?_))))))
      exact hK2 _ ⟨by simp only;omega,swap_perm g2 (by omega) (by omega)⟩ (by simp only;omega)
  refine zai (by omega) ?_
  refine zb2 (fun e2=>?_) (fun e2=>?_)
  · refine wp_loop (fun s=>a≤s.1∧s.1≤s.2∧s.2≤m) (fun s=>(s.2 - s.1).toNat) (by simp only;omega) ⟨by simp [-List.getD_eq_getElem?_getD],by simp only;omega,by simp [-List.getD_eq_getElem?_getD]⟩ (fun s K hI hK=>?_)
    obtain ⟨i,j⟩:=s
    obtain ⟨h1,h2,h3⟩:=hI
    simp only at h1 h2 h3 hK ⊢
    refine zb2 (fun hlt=>?_) (fun hge=>?_)
    · rw [half (by omega)]
      refine zai (by omega) (zaq (by unfold inU;omega) (zai (by omega) (zaq (by omega) (zaq (by omega) (wp_bind (hc _ _ (by omega) (by omega) (by omega) (by omega)) (fun y _=>?_))))))
      refine zfq (fun _=>zai (by omega) (hK _ ⟨by simp only;omega,by simp only;omega,by simp only;omega⟩ (by simp only;omega))) (fun _=>hK _ ⟨by simp only;omega,by simp only;omega,by simp only;omega⟩ (by simp only;omega))
    · refine wp_loop (fun s=>s.1≤m∧s.2.Perm l) (fun s=>(s.1 - i).toNat) (by simp only;omega) ⟨by simp [-List.getD_eq_getElem?_getD],.refl _⟩ (fun s K2 hI2 hK2=>?_)
      obtain ⟨k,s⟩:=s
      obtain ⟨g1,g2⟩:=hI2
      simp only at g1 g2 hK2 ⊢
      have hlen:=g2.length_eq
      refine zb2 (fun hk=>?_) (fun _=>zaA g2)
      refine zai (by omega) (zai (by omega) (zaq (by omega) (zaq (by omega) (zaq (by omega) (zaq (by rw [List.length_set];omega) (zai (by omega) ?_))))))
      exact hK2 _ ⟨by simp only;omega,swap_perm g2 (by omega) (by omega)⟩ (by simp only;omega)
  rw [half (by omega)]
  refine zai (by omega) (zaq (by unfold inU;omega) (zai (by omega) (zai (by omega) ?_)))
  have hmid:a<(a+b) / 2∧(a+b) / 2<b:=by omega
  generalize hmd:(a+b) / 2=mid at hmid ⊢
  have hm2:2 * mid≤a+b∧a+b≤2 * mid+1:=by omega
  refine zgE (fun s=>a≤s.1∧mid+m - b≤s.1∧s.1≤s.2∧(s.2=mid∧mid<m∨s.2=m∧m≤mid)) (fun K hK=>?_) (fun s hs=>?_)
  · refine zb2 (fun h=>zai (by omega) (hK _ ⟨by simp only;omega,by simp only;omega,by simp only;omega,.inl ⟨rfl,h⟩⟩)) (fun h=>hK _ ⟨by simp [-List.getD_eq_getElem?_getD],by simp only;omega,by simp only;omega,.inr ⟨rfl,by omega⟩⟩)
  obtain ⟨st,r⟩:=s
  obtain ⟨s1,s2,s3,s4⟩:=hs
  simp only at s1 s2 s3 s4 ⊢
  refine zai (by omega) ?_
  refine wp_loop (fun s=>st≤s.1∧s.1≤s.2∧s.2≤r) (fun s=>(s.2 - s.1).toNat) (by simp only;omega) ⟨by simp [-List.getD_eq_getElem?_getD],s3,by simp [-List.getD_eq_getElem?_getD]⟩ (fun s K hI hK=>?_)
  obtain ⟨i,j⟩:=s
  obtain ⟨h1,h2,h3⟩:=hI
  simp only at h1 h2 h3 hK ⊢
  refine zb2 (fun hlt=>?_) (fun hge=>?_)
  · rw [half (by omega)]
    refine zai (by omega) (zaq (by unfold inU;omega) (zai (by omega) (zai (by omega) (zaq (by omega) (zaq (by omega) (wp_bind (hc _ _ (by omega) (by omega) (by omega) (by omega)) (fun y _=>?_)))))))
    refine zfq (fun _=>zai (by omega) (hK _ ⟨by simp only;omega,by simp only;omega,by simp only;omega⟩ (by simp only;omega))) (fun _=>hK _ ⟨by simp only;omega,by simp only;omega,by simp only;omega⟩ (by simp only;omega))
  refine zai (by omega) ?_
  refine zgE (fun s=>s.Perm l) (fun K hK=>?_) (fun s hs=>?_)
  · refine zcw (fun h=>?_) (fun h=>hK _ (.refl _))
    simp only [Bool.and_eq_true,decide_eq_true_eq] at h
    exact wp_bind (znN hf hl (by omega) (by omega) (by omega) (by omega)) (fun y hy=>zaq hy.length_eq (hK _ hy))
  have hsl:=hs.length_eq
  refine zgE (fun s=>s.Perm l) (fun K hK=>?_) (fun t ht=>?_)
  · refine zcw (fun h=>?_) (fun h=>hK _ hs)
    simp only [Bool.and_eq_true,decide_eq_true_eq] at h
    exact wp_bind (ze4 hf n (by omega) (H.perm hs) (by omega) (by omega) (by omega) (by omega) (by omega)) (fun y hy=>zaq hy.length_eq (hK _ (hy.trans hs)))
  have htl:=ht.length_eq
  refine zcw (fun h=>?_) (fun h=>zaA ht)
  simp only [Bool.and_eq_true,decide_eq_true_eq] at h
  exact wp_bind (ze4 hf n (by omega) (H.perm ht) (by omega) (by omega) (by omega) (by omega) (by omega)) (fun y hy=>zaA (hy.trans ht))
theorem zj3 {fuel:Nat} (hf:1000≤fuel) {l:List Int} (hl:l.length≤100) {c:Int→Int→Option Int} (H:Cmp l c):Wp (zaF fuel l c) (fun r=>r.Perm l):=by
 unfold zaF
 refine wp_bind (Q:=fun r=>r.Perm l) ?_ (fun y hy=>zaA hy)
 unfold zbs
 refine wp_loop (fun s=>0≤s.1∧s.1+20=s.2.1∧s.1≤(l.length:Int)∧s.2.2.Perm l) (fun s=>(200 - s.1).toNat) (by simp only;omega) ⟨by simp [-List.getD_eq_getElem?_getD],by simp [-List.getD_eq_getElem?_getD],by simp only;omega,.refl _⟩ (fun s K hI hK=>?_)
 obtain ⟨i,j,s⟩:=s
 obtain ⟨h1,h2,h3,h4⟩:=hI
 simp only at h1 h2 h3 h4 hK ⊢
 have hlen:=h4.length_eq
 refine zb2 (fun hlt=>?_) (fun hge=>?_)
 · exact wp_bind (zh1 hf (by omega) (H.perm h4) (by omega) (by omega)) (fun y hy=>zaq hy.length_eq (zai (by omega) (hK _ ⟨by simp only;omega,by simp only,by simp only;omega,hy.trans h4⟩ (by simp only;omega))))
 refine wp_bind (zh1 hf (by omega) (H.perm h4) (by omega) (by omega)) (fun y hy=>zaq hy.length_eq ?_)
 have hy':=hy.trans h4
 refine wp_loop (fun s=>20≤s.1∧s.1≤200∧s.2.Perm l) (fun s=>(200 - s.1).toNat) (by simp only;omega) ⟨by simp [-List.getD_eq_getElem?_getD],by simp [-List.getD_eq_getElem?_getD],hy'⟩ (fun t K2 hI2 hK2=>?_)
 obtain ⟨bs,t⟩:=t
 obtain ⟨g1,g2,g3⟩:=hI2
 simp only at g1 g2 g3 hK2 ⊢
 refine zb2 (fun hbs=>?_) (fun _=>zaA g3)
 refine zai (by omega) ?_
 refine wp_loop (fun s=>0≤s.1∧s.1+2 * bs=s.2.1∧s.1≤(l.length:Int)∧s.2.2.Perm l) (fun s=>(1000 - s.1).toNat - 100) (by simp only;omega) ⟨by simp [-List.getD_eq_getElem?_getD],by simp [-List.getD_eq_getElem?_getD],by simp only;omega,g3⟩ (fun u K3 hI3 hK3=>?_)
 obtain ⟨x,z,u⟩:=u
 obtain ⟨u1,u2,u3,u4⟩:=hI3
 simp only at u1 u2 u3 u4 hK3 ⊢
 have hul:=u4.length_eq
 refine zb2 (fun hz=>?_) (fun hz=>?_)
 · exact zai (by omega) (wp_bind (ze4 hf fuel (by omega) (H.perm u4) (by omega) (by omega) (by omega) (by omega) (by omega)) (fun y hy=>zaq hy.length_eq (zai (by omega) (zai (by omega) (hK3 _ ⟨by simp only;omega,by simp only,by simp only;omega,hy.trans u4⟩ (by simp only;omega))))))
 refine zai (by omega) ?_
 refine zgE (fun s=>s.Perm l) (fun K4 hK4=>?_) (fun v hv=>zai (by omega) (hK2 _ ⟨by simp only;omega,by simp only;omega,hv⟩ (by simp only;omega)))
 refine zb2 (fun hx=>?_) (fun hx=>hK4 _ u4)
 exact wp_bind (ze4 hf fuel (by omega) (H.perm u4) (by omega) (by omega) (by omega) (by omega) (by omega)) (fun y hy=>zaq hy.length_eq (hK4 _ (hy.trans u4)))
end Go.Sp
end
/- Plain laws, mantle: which mantle a lamp has, by both; which burns tell; ages as sums. No program in sight. -/
section
set_option linter.all false
namespace Go.Sp
open Go.Av
set_option maxRecDepth 100000
def mt (w:Wear) (i:Nat):Mantle:=w.Mantles.getD i default
def bn (w:Wear) (i:Nat):Burn:=w.Burns.getD i default
def Cand (w:Wear) (lamp night known:Int) (j:Nat):Prop:=(mt w j).Lamp=lamp∧(mt w j).Night≤night∧zax (mt w j).Known (mt w j).Until known=true
instance (w:Wear) (lamp night known:Int) (j:Nat):Decidable (Cand w lamp night known j):=inferInstanceAs (Decidable (_∧_∧_))
def fitN (w:Wear) (lamp night known:Int):Nat→Int
 | 0=>-1
 | n+1=>if Cand w lamp night known n∧(fitN w lamp night known n<0∨(mt w (fitN w lamp night known n).toNat).Night≤(mt w n).Night) then (n:Int) else fitN w lamp night known n
def fit (w:Wear) (lamp night known:Int):Int:=fitN w lamp night known w.Mantles.length
structure FitIs (w:Wear) (lamp night known:Int) (n:Nat) (i:Nat):Prop where
 lt:i<n
 cand:Cand w lamp night known i
 top:∀ j,j<n→Cand w lamp night known j→(mt w j).Night≤(mt w i).Night∧(i<j→(mt w j).Night<(mt w i).Night)
theorem zi4 (w:Wear) (lamp night known:Int):∀ n,(fitN w lamp night known n = -1∧∀ j,j<n→¬ Cand w lamp night known j)∨∃ i:Nat,fitN w lamp night known n=(i:Int)∧FitIs w lamp night known n i
 | 0=>.inl ⟨rfl,fun j hj=>absurd hj (Nat.not_lt_zero _)⟩
 | n+1=>by
  unfold fitN
  rcases zi4 w lamp night known n with ⟨e,h⟩|⟨i,e,h⟩
  · rw [e]
    by_cases hc:Cand w lamp night known n
    · rw [if_pos ⟨hc,.inl (by omega)⟩]
      refine .inr ⟨n,rfl,by omega,hc,fun j hj hcj=>?_⟩
      by_cases e:j=n
      · subst e;exact ⟨Int.le_refl _,fun h=>absurd h (Nat.lt_irrefl _)⟩
      · exact absurd hcj (h j (by omega))
    · rw [if_neg (fun h=>hc h.1)]
      refine .inl ⟨rfl,fun j hj=>?_⟩
      by_cases e:j=n
      · rw [e];exact hc
      · exact h j (by omega)
  · rw [e,Int.toNat_natCast]
    by_cases hc:Cand w lamp night known n∧((i:Int)<0∨(mt w i).Night≤(mt w n).Night)
    · rw [if_pos hc]
      have h2:(mt w i).Night≤(mt w n).Night:=hc.2.resolve_left (by omega)
      refine .inr ⟨n,rfl,by omega,hc.1,fun j hj hcj=>?_⟩
      by_cases e:j=n
      · subst e;exact ⟨Int.le_refl _,fun h=>absurd h (Nat.lt_irrefl _)⟩
      · have:=(h.top j (by omega) hcj).1
        exact ⟨by omega,fun h=>by omega⟩
    · rw [if_neg hc]
      refine .inr ⟨i,rfl,by have:=h.lt;omega,h.cand,fun j hj hcj=>?_⟩
      by_cases e:j=n
      · subst e
        have:¬ (mt w i).Night≤(mt w j).Night:=fun h=>hc ⟨hcj,.inr h⟩
        exact ⟨by omega,fun _=>by omega⟩
      · exact h.top j (by omega) hcj
theorem zhf (w:Wear) (lamp night known:Int):(fit w lamp night known = -1∧∀ j,j<w.Mantles.length→¬ Cand w lamp night known j)∨∃ i:Nat,fit w lamp night known=(i:Int)∧FitIs w lamp night known w.Mantles.length i:=zi4 w lamp night known _
theorem FitIs.eq {w:Wear} {lamp night known:Int} {i j:Nat} (h1:FitIs w lamp night known w.Mantles.length i) (h2:FitIs w lamp night known w.Mantles.length j):i=j:=by
 have a:=h1.top j h2.lt h2.cand
 have b:=h2.top i h1.lt h1.cand
 rcases Nat.lt_trichotomy i j with h|h|h
 · have:=a.2 h;omega
 · exact h
 · have:=b.2 h;omega
theorem FitIs.fit {w:Wear} {lamp night known:Int} {i:Nat} (h:FitIs w lamp night known w.Mantles.length i):fit w lamp night known=(i:Int):=by
 rcases zhf w lamp night known with ⟨e,h2⟩|⟨j,e,h2⟩
 · exact absurd h.cand (h2 i h.lt)
 · rw [e,h2.eq h]
theorem fit_is {w:Wear} {lamp night known:Int} {i:Nat} (h:Go.Sp.fit w lamp night known=(i:Int)):FitIs w lamp night known w.Mantles.length i:=by
 rcases zhf w lamp night known with ⟨e,h2⟩|⟨j,e,h2⟩
 · omega
 · have:i=j:=by omega
   subst this;exact h2
theorem zpM (w:Wear) (lamp night known:Int) : -1≤fit w lamp night known∧fit w lamp night known<(w.Mantles.length:Int):=by
 rcases zhf w lamp night known with ⟨e,_⟩|⟨j,e,h⟩
 · omega
 · have:=h.lt;omega
theorem zi1 (w:Wear) (lamp night known:Int):zbR w lamp night known=some (fit w lamp night known):=by
 unfold zbR
 refine Wp.eq (zeg (fun i s=>s=fitN w lamp night known i) rfl (fun i s K hi hI hK=>?_) (fun s hs=>zaA hs))
 have hs:=zi4 w lamp night known i
 rw [← hI] at hs
 refine zaq (fun h=>?_) ?_
 · simp only [Bool.and_eq_true,Bool.not_eq_true',decide_eq_false_iff_not] at h
   rcases hs with ⟨e,_⟩|⟨j,e,hj⟩
   · omega
   · have:=hj.lt;omega
 have e:((((decide ((w.Mantles.getD i default).Lamp=lamp)) && (decide ((w.Mantles.getD i default).Night≤night))) && (zax ((w.Mantles.getD i default).Known) ((w.Mantles.getD i default).Until) known)) && ((decide (s<0)) || (decide ((w.Mantles.getD (s).toNat default).Night≤(w.Mantles.getD i default).Night))))=decide (Cand w lamp night known i∧(s<0∨(mt w s.toNat).Night≤(mt w i).Night)):=by
  rw [Bool.eq_iff_iff]
  simp only [Bool.and_eq_true,Bool.or_eq_true,decide_eq_true_eq,Cand,mt,and_assoc]
 rw [e]
 refine zb2 (fun h=>hK _ ?_) (fun h=>hK _ ?_)
 · subst hI;unfold fitN;rw [if_pos h]
 · subst hI;conv=>rhs;unfold fitN
   rw [if_neg h]
def tell (w:Wear) (known:Int) (i:Nat):Bool:=decide (0≤fit w (bn w i).Lamp (bn w i).Night known) && zax (bn w i).Known (bn w i).Until known &&
 decide (∀ k,k<w.Burns.length→i<k→¬ ((bn w k).Lamp=(bn w i).Lamp∧(bn w k).Night=(bn w i).Night∧zax (bn w k).Known (bn w k).Until known=true))
def zbP (P:Nat→Bool) (f:Nat→Int):Nat→Int
 | 0=>0
 | n+1=>zbP P f n+(if P n=true then f n else 0)
theorem zhU {P Q:Nat→Bool} {f:Nat→Int}:∀ {n:Nat},(∀ i,i<n→P i=Q i)→zbP P f n=zbP Q f n
 | 0,_=>rfl
 | n+1,h=>by unfold zbP;rw [zhU (fun i hi=>h i (by omega)),h n (by omega)]
theorem ziC {P Q:Nat→Bool} {f:Nat→Int}:∀ {n:Nat},(∀ i,i<n→0≤f i)→(∀ i,i<n→P i=true→Q i=true)→zbP P f n≤zbP Q f n
 | 0,_,_=>Int.le_refl _
 | n+1,h0,h=>by
  unfold zbP
  have h1:=ziC (fun i hi=>h0 i (by omega)) (fun i hi=>h i (by omega)) (P:=P) (Q:=Q) (f:=f) (n:=n)
  have h2:=h0 n (by omega)
  by_cases hp:P n=true
  · rw [if_pos hp,if_pos (h n (by omega) hp)];omega
  · rw [if_neg hp];split <;> omega
theorem zfD {P:Nat→Bool} {f:Nat→Int} {c:Int} (hc:0≤c):∀ {n:Nat},(∀ i,i<n→0≤f i∧f i≤c)→0≤zbP P f n∧zbP P f n≤(n:Int) * c
 | 0,_=>by simp [-List.getD_eq_getElem?_getD,zbP]
 | n+1,h=>by
  unfold zbP
  have h1:=zfD hc (fun i hi=>h i (by omega)) (P:=P) (f:=f) (n:=n)
  have h2:=h n (by omega)
  have:((n+1:Nat):Int) * c=(n:Int) * c+c:=by rw [Int.natCast_add,Int.add_mul];simp [-List.getD_eq_getElem?_getD]
  rw [this]
  split <;> omega
def zjo (w:Wear) (known m from_ to:Int) (i:Nat):Bool:=tell w known i && decide (fit w (bn w i).Lamp (bn w i).Night known=m) && (decide (from_<(bn w i).Night) && decide ((bn w i).Night≤to))
def zjj (w:Wear) (known m from_ to:Int):Int:=zbP (zjo w known m from_ to) (fun i=>(bn w i).Minutes.Lo) w.Burns.length
def zfy (w:Wear) (known m from_ to:Int):Int:=zbP (zjo w known m from_ to) (fun i=>(bn w i).Minutes.Hi) w.Burns.length
end Go.Sp
end
/- Plain laws, mantle: which burns tell, ages, by both; the burns of each mantle. No program in sight. -/
section
set_option linter.all false
namespace Go.Sp
open Go.Av
set_option maxRecDepth 100000
theorem zeE {T:Type} [Inhabited T] {p:T→Option Bool} {q:T→Bool} (hp:∀ x,p x=some (q x)) (l:List T) :
 (zao (zau (fun i1 (s1:Unit) k1=>zao (p (l.getD i1 default)) fun y3=>(bif y3 then some (i1:Int) else k1 ())) (fun (s1:Unit)=>some (-1)) l.length 0 ():Option Int) fun y1=>some (decide (0≤y1)))=some (l.any q):=by
 rw [zeD hp l]
 show some _=some _
 congr 1
 cases h:l.findIdx? q with
 | none=>
  rw [List.findIdx?_eq_none_iff] at h
  have:l.any q=false:=by rw [List.any_eq_false];intro x hx;simp [-List.getD_eq_getElem?_getD,h x hx]
  rw [this];rfl
 | some i=>
  rw [List.findIdx?_eq_some_iff_getElem] at h
  obtain ⟨h1,h2,_⟩:=h
  have:l.any q=true:=List.any_eq_true.2 ⟨_,List.getElem_mem h1,h2⟩
  rw [this];simp [-List.getD_eq_getElem?_getD]
def zk8 (w:Wear) (known:Int) (i k:Nat):Prop:=(bn w k).Lamp=(bn w i).Lamp∧(bn w k).Night=(bn w i).Night∧zax (bn w k).Known (bn w k).Until known=true
theorem zik {w:Wear} {known:Int} {i:Nat}:tell w known i=true↔0≤fit w (bn w i).Lamp (bn w i).Night known∧zax (bn w i).Known (bn w i).Until known=true∧∀ k,k<w.Burns.length→i<k→¬ zk8 w known i k:=by
 simp only [tell,Bool.and_eq_true,decide_eq_true_eq,and_assoc,zk8]
theorem zpA {w:Wear} {known:Int} {i:Nat}:(w.Burns.drop (i+1)).any (fun x0=>zbi x0 (bn w i) known)=true↔∃ k,k<w.Burns.length∧i<k∧zk8 w known i k:=by
 rw [List.any_eq_true]
 constructor
 · rintro ⟨x,hx,h⟩
   obtain ⟨j,hj,rfl⟩:=zb1 hx
   rw [List.length_drop] at hj
   rw [getD_drop] at h
   refine ⟨i+1+j,by omega,by omega,?_⟩
   simp only [zbi,Bool.and_eq_true,decide_eq_true_eq,and_assoc] at h
   exact h
 · rintro ⟨k,hk,hik,h⟩
   refine ⟨bn w k,?_,by simp only [zbi,Bool.and_eq_true,decide_eq_true_eq,and_assoc];exact h⟩
   have:(w.Burns.drop (i+1)).getD (k - (i+1)) default=bn w k:=by rw [getD_drop];unfold bn;congr 1;omega
   rw [← this]
   exact zbF (by rw [List.length_drop];omega)
theorem znw {w:Wear} (V:WearOk w) {i:Nat} (hi:i<w.Burns.length):BurnOk (bn w i):=(V.bu i hi).1
theorem sum60 {w:Wear} (V:WearOk w) (P:Nat→Bool) {n:Nat} (hn:n≤w.Burns.length):(0≤zbP P (fun i=>(bn w i).Minutes.Lo) n∧zbP P (fun i=>(bn w i).Minutes.Lo) n≤86400)∧(0≤zbP P (fun i=>(bn w i).Minutes.Hi) n∧zbP P (fun i=>(bn w i).Minutes.Hi) n≤86400):=by
 have nu:=V.nu
 have h1:=zfD (P:=P) (f:=fun i=>(bn w i).Minutes.Lo) (c:=1440) (by decide) (n:=n) (fun i hi=>by have:=(znw V (i:=i) (by omega)).min;omega)
 have h2:=zfD (P:=P) (f:=fun i=>(bn w i).Minutes.Hi) (c:=1440) (by decide) (n:=n) (fun i hi=>by have:=(znw V (i:=i) (by omega)).min;omega)
 have:(n:Int) * 1440≤86400:=by omega
 omega
def zhO (w:Wear) (known m:Int) (n:Nat):List Int:=((List.range n).filter (fun i=>tell w known i && decide (fit w (bn w i).Lamp (bn w i).Night known=m))).map (fun i:Nat=>(i:Int))
theorem zjQ {w:Wear} {known m:Int} {n:Nat}:zhO w known m (n+1)=if tell w known n=true∧fit w (bn w n).Lamp (bn w n).Night known=m then zhO w known m n++[(n:Int)] else zhO w known m n:=by
 unfold zhO
 rw [List.range_succ,List.filter_append,List.map_append]
 by_cases h:tell w known n=true∧fit w (bn w n).Lamp (bn w n).Night known=m
 · rw [if_pos h]
   simp [-List.getD_eq_getElem?_getD,h]
 · rw [if_neg h]
   have:(tell w known n && decide (fit w (bn w n).Lamp (bn w n).Night known=m))=false:=by
    rw [Bool.and_eq_false_iff,decide_eq_false_iff_not]
    by_cases h1:tell w known n=true
    · exact .inr (fun h2=>h ⟨h1,h2⟩)
    · exact .inl (by simpa [-List.getD_eq_getElem?_getD] using h1)
   simp [-List.getD_eq_getElem?_getD,this]
theorem zhn {w:Wear} {known m:Int} {n:Nat} {x:Int} (h:x∈zhO w known m n):0≤x∧x<(n:Int):=by
 unfold zhO at h
 rw [List.mem_map] at h
 obtain ⟨i,hi,rfl⟩:=h
 have:=List.mem_range.1 (List.mem_filter.1 hi).1
 omega
theorem zji (w:Wear) (known m:Int) (n:Nat):(zhO w known m n).length≤n:=by
 unfold zhO
 rw [List.length_map]
 exact Nat.le_trans (List.length_filter_le _ _) (by simp [-List.getD_eq_getElem?_getD])
theorem Mp.zpe {T:Type}:(Mp.empty:Mp T).ok:=⟨List.nodup_nil,rfl,fun k hk=>by cases hk⟩
theorem Mp.ok_set {T:Type} {m:Mp T} (h:m.ok) (hd:∀ k,(m.get k).isSome=true→k∈m.keys) (q:Int) (x:T):(m.set q x).ok∧∀ k,((m.set q x).get k).isSome=true→k∈(m.set q x).keys:=by
 obtain ⟨h1,h2,h3⟩:=h
 unfold Mp.set Mp.ok
 by_cases hq:(m.get q).isSome=true
 · simp only [hq,if_true]
   refine ⟨⟨h1,h2,fun k hk=>?_⟩,fun k hk=>?_⟩
   · by_cases e:k=q
     · rw [if_pos e];rfl
     · rw [if_neg e];exact h3 k hk
   · by_cases e:k=q
     · rw [e];exact hd q hq
     · rw [if_neg e] at hk;exact hd k hk
 · simp only [hq]
   have hnq:q ∉ m.keys:=fun h=>hq (h3 q h)
   refine ⟨⟨?_,by simp [-List.getD_eq_getElem?_getD,h2],fun k hk=>?_⟩,fun k hk=>?_⟩
   · show (m.keys++[q]).Nodup
     rw [List.nodup_append]
     exact ⟨h1,by simp [-List.getD_eq_getElem?_getD],fun a ha b hb=>by
      rw [List.mem_singleton] at hb
      subst hb
      exact fun e=>hnq (e▸ha)⟩
   · by_cases e:k=q
     · rw [if_pos e];rfl
     · rw [if_neg e]
       have:k∈m.keys++[q]:=hk
       rw [List.mem_append,List.mem_singleton] at this
       exact h3 k (this.resolve_right e)
   · show k∈m.keys++[q]
     rw [List.mem_append,List.mem_singleton]
     by_cases e:k=q
     · exact .inr e
     · rw [if_neg e] at hk;exact .inl (hd k hk)
theorem zpC {w:Wear} (V:WearOk w) {fuel:Nat} (hf:1000≤fuel) (known:Int):Wp (zd0 fuel w known) (fun mp=>∀ m,((mp.get m).getD default).Perm (zhO w known m w.Burns.length)):=by
 have nu:=V.nu
 unfold zd0
 refine zeg (fun i s=>(s.ok∧∀ k,(s.get k).isSome=true→k∈s.keys)∧∀ m,(s.get m).getD []=zhO w known m i) ⟨⟨Mp.zpe,fun k hk=>by cases hk⟩,fun m=>rfl⟩ (fun i s K hi hI hK=>?_) (fun s hs=>?_)
 · obtain ⟨⟨h1,h2⟩,h3⟩:=hI
   refine zaJ (zi1 w _ _ known) (zaq (fun _=>by omega) ?_)
   refine zkM (Q:=fun y=>y=(w.Burns.drop (i+1)).any (fun x0=>zbi x0 (bn w i) known)) (fun _=>?_) (fun y6 h6=>?_)
   · have e:(((i:Int)+1)).toNat=i+1:=by omega
     rw [e]
     exact ⟨_,zeE (q:=fun x0=>zbi x0 (bn w i) known) (fun x=>rfl) _,rfl⟩
   have e:(((decide (0≤fit w (w.Burns.getD i default).Lamp (w.Burns.getD i default).Night known)) && (zax ((w.Burns.getD i default).Known) ((w.Burns.getD i default).Until) known)) && (!y6))=tell w known i:=by
    rw [Bool.eq_iff_iff,zik]
    simp only [Bool.and_eq_true,Bool.not_eq_true',decide_eq_true_eq,and_assoc,bn]
    refine and_congr_right (fun a1=>and_congr_right (fun a2=>?_))
    have h7:=h6 (by simp only [Bool.and_eq_true,decide_eq_true_eq];exact ⟨a1,a2⟩)
    rw [h7,← Bool.not_eq_true,zpA]
    exact ⟨fun h k hk hik hl=>h ⟨k,hk,hik,hl⟩,fun h ⟨k,hk,hik,hl⟩=>h k hk hik hl⟩
   rw [e]
   have hlen:=zji w known (fit w (w.Burns.getD i default).Lamp (w.Burns.getD i default).Night known) i
   refine zcw (fun ht=>za9 (by rw [h3];simp [-List.getD_eq_getElem?_getD];omega) (hK _ ⟨Mp.ok_set h1 h2 _ _,fun m=>?_⟩)) (fun ht=>hK _ ⟨⟨h1,h2⟩,fun m=>?_⟩)
   · rw [h3]
     show (if m=_ then some _ else s.get m).getD []=_
     rw [zjQ]
     by_cases e1:m=fit w (bn w i).Lamp (bn w i).Night known
     · have e2:tell w known i=true∧fit w (bn w i).Lamp (bn w i).Night known=m:=⟨ht,e1.symm⟩
       rw [if_pos e2,e1]
       exact congrArg (fun z=>Option.getD z []) (if_pos rfl)
     · have e2:¬ (tell w known i=true∧fit w (bn w i).Lamp (bn w i).Night known=m):=fun h=>e1 h.2.symm
       rw [if_neg e2,← h3 m]
       exact congrArg (fun z=>Option.getD z []) (if_neg e1)
   · rw [zjQ,if_neg (fun h=>by rw [ht] at h;cases h.1),h3]
 · obtain ⟨⟨h1,h2⟩,h3⟩:=hs
   refine zaq h1 ?_
   have hsort:∀ m,Wp (zaF fuel ((s.get m).getD []) (fun x0 x1=>zbD x0 x1 w)) (fun r=>r.Perm ((s.get m).getD [])):=fun m=>by
    have hl:=zji w known m w.Burns.length
    refine zj3 hf (by rw [h3];omega) (fun a ha b hb=>?_)
    rw [h3] at ha hb
    have a1:=zhn ha
    have b1:=zhn hb
    unfold zbD
    rw [ze9 a1,ze9 b1]
    exact ⟨_,rfl⟩
   have hrow:∀ m,Wp (zao (zaF fuel ((s.get m).getD []) (fun x0 x1=>zbD x0 x1 w)) fun y13=>must (y13.length=((s.get m).getD []).length) (some y13)) (fun r=>r.Perm ((s.get m).getD [])):=fun m=>wp_bind (hsort m) (fun y hy=>zaq hy.length_eq (zaA hy))
   refine wp_bind (Q:=fun y=>∀ m,((y.get m).getD default).Perm (zhO w known m w.Burns.length)) ?_ (fun y hy=>zaA hy)
   unfold Mp.zmI
   have hall:s.keys.all (fun k=>((fun (l11:List Int)=>zao (zaF fuel l11 (fun x0 x1=>zbD x0 x1 w)) fun y13=>must (y13.length=l11.length) (some y13)) ((s.get k).getD default)).isSome)=true:=by
    rw [List.all_eq_true]
    intro k _
    obtain ⟨r,e,_⟩:=hrow k
    show (zao (zaF fuel ((s.get k).getD []) (fun x0 x1=>zbD x0 x1 w)) fun y13=>must (y13.length=((s.get k).getD []).length) (some y13)).isSome=true
    rw [e];rfl
   rw [hall]
   refine zaA (fun m=>?_)
   rw [← h3]
   obtain ⟨r,e,hr⟩:=hrow m
   cases hm:s.get m with
   | none=>simp only [hm];exact .refl _
   | some l=>
    rw [hm] at e hr
    simp only [Option.getD_some,hm] at e hr ⊢
    rw [e];exact hr
end Go.Sp
end
/- Plain laws, mantle: the closet: which lives each batch may have. No program in sight. -/
section
set_option linter.all false
namespace Go.Sp
open Go.Av
set_option maxRecDepth 100000
def lsum (g:Int→Int):List Int→Int
 | []=>0
 | x::l=>g x+lsum g l
theorem zn9 {g:Int→Int} {l r:List Int} (h:l.Perm r):lsum g l=lsum g r:=by
 induction h with
 | nil=>rfl
 | cons x _ ih=>unfold lsum;rw [ih]
 | swap x y l=>unfold lsum;unfold lsum;omega
 | trans _ _ h1 h2=>rw [h1,h2]
theorem zfQ {g:Int→Int} (l:List Int) (x:Int):lsum g (l++[x])=lsum g l+g x:=by
 induction l with
 | nil=>simp [-List.getD_eq_getElem?_getD,lsum]
 | cons y l ih=>rw [List.cons_append];unfold lsum;rw [ih];omega
theorem zjH {g:Int→Int} {c:Int} (hc:0≤c):∀ {l:List Int},(∀ x∈l,0≤g x∧g x≤c)→0≤lsum g l∧lsum g l≤(l.length:Int) * c
 | [],_=>by simp [-List.getD_eq_getElem?_getD,lsum]
 | x::l,h=>by
  unfold lsum
  have h1:=zjH hc (fun y hy=>h y (List.mem_cons_of_mem _ hy)) (g:=g) (l:=l)
  have h2:=h x (List.mem_cons_self ..)
  have:((x::l).length:Int) * c=(l.length:Int) * c+c:=by rw [List.length_cons,Int.natCast_add,Int.add_mul];simp [-List.getD_eq_getElem?_getD]
  rw [this];omega
theorem zjG {P:Nat→Bool} {g:Int→Int}:∀ {n:Nat},lsum g (((List.range n).filter P).map (fun i:Nat=>(i:Int)))=zbP P (fun i=>g i) n
 | 0=>rfl
 | n+1=>by
  rw [List.range_succ,List.filter_append,List.map_append]
  unfold zbP
  rw [← zjG]
  by_cases h:P n=true
  · rw [if_pos h]
    have:(List.filter P [n]).map (fun i:Nat=>(i:Int))=[(n:Int)]:=by simp [-List.getD_eq_getElem?_getD,h]
    rw [this,zfQ]
  · rw [if_neg h]
    have:(List.filter P [n]).map (fun i:Nat=>(i:Int))=[]:=by simp [-List.getD_eq_getElem?_getD,h]
    rw [this,List.append_nil,Int.add_zero]
theorem zjz {P Q:Nat→Bool} {f:Nat→Int}:∀ {n:Nat},zbP P (fun i=>if Q i=true then f i else 0) n=zbP (fun i=>P i && Q i) f n
 | 0=>rfl
 | n+1=>by
  unfold zbP
  rw [zjz]
  cases hp:P n <;> cases hq:Q n <;> simp [-List.getD_eq_getElem?_getD]
structure CoatOk (w:Wear) (known:Int) (m:Nat) (S:List mantle_sight) (c:mantle_coat):Prop where
 wear:c.w=w
 burns:c.burns.Perm (zhO w known m w.Burns.length)
 sights:c.sights=S
theorem zbv {T:Type} [Inhabited T] {l:List T} {i:Nat} (h:i<l.length):l.take (i+1)=l.take i++[l.getD i default]:=by
 rw [List.take_add_one,List.getElem?_eq_getElem h,List.getD_eq_getElem?_getD,List.getElem?_eq_getElem h];rfl
theorem zml {w:Wear} (V:WearOk w) {known:Int} {m:Nat} {S:List mantle_sight} {c:mantle_coat} (hc:CoatOk w known m S c) (f t:Int):zbf c f t=some ⟨zjj w known m f t,zfy w known m f t⟩:=by
 have nu:=V.nu
 unfold zbf
 rw [hc.wear]
 have hlen:c.burns.length≤60:=by have:=hc.burns.length_eq;have:=zji w known m w.Burns.length;omega
 have hin:∀ i,i<c.burns.length→0≤c.burns.getD i default∧c.burns.getD i default<(w.Burns.length:Int):=fun i hi=>zhn (hc.burns.mem_iff.1 (zbF hi))
 let g:(Burn→Int)→Int→Int:=fun F x=>if f<(bn w x.toNat).Night∧(bn w x.toNat).Night≤t then F (bn w x.toNat) else 0
 have hL:∀ F,(∀ b,BurnOk b→0≤F b∧F b≤1440)→∀ i,0≤lsum (g F) (c.burns.take i)∧lsum (g F) (c.burns.take i)≤86400:=fun F hF i=>by
  have:=zjH (g:=g F) (c:=1440) (by decide) (l:=c.burns.take i) (fun x hx=>by
   have hx':=zhn (hc.burns.mem_iff.1 (List.mem_of_mem_take hx))
   have:=hF _ (znw V (i:=x.toNat) (by omega))
   simp only [g]
   split <;> omega)
  have h2:(c.burns.take i).length≤60:=by rw [List.length_take];omega
  omega
 have hlo:∀ b,BurnOk b→0≤b.Minutes.Lo∧b.Minutes.Lo≤1440:=fun b hb=>by have:=hb.min;omega
 have hhi:∀ b,BurnOk b→0≤b.Minutes.Hi∧b.Minutes.Hi≤1440:=fun b hb=>by have:=hb.min;omega
 refine Wp.eq (zeg (fun i s=>s=⟨lsum (g (·.Minutes.Lo)) (c.burns.take i),lsum (g (·.Minutes.Hi)) (c.burns.take i)⟩) rfl (fun i s K hi hI hK=>?_) (fun s hs=>zaA ?_))
 · subst hI
   have a:=hin i hi
   have b1:=hL _ hlo i
   have b2:=hL _ hhi i
   have hb:=(znw V (i:=(c.burns.getD i default).toNat) (by omega)).min
   refine zaq a ?_
   have e:((decide (f<(w.Burns.getD ((c.burns.getD i default)).toNat default).Night)) && (decide ((w.Burns.getD ((c.burns.getD i default)).toNat default).Night≤t)))=decide (f<(bn w (c.burns.getD i default).toNat).Night∧(bn w (c.burns.getD i default).toNat).Night≤t):=by
    rw [Bool.decide_and];rfl
   rw [e]
   unfold bn at hb
   refine zb2 (fun h=>zai (by simp only;omega) (zai (by simp only;omega) (hK _ ?_))) (fun h=>hK _ ?_)
   · rw [zbv hi,zfQ,zfQ]
     simp only [g]
     rw [if_pos h,if_pos h];rfl
   · rw [zbv hi,zfQ,zfQ]
     simp only [g]
     rw [if_neg h,if_neg h,Int.add_zero,Int.add_zero]
 · rw [hs,List.take_length]
   have key:∀ F:Burn→Int,lsum (g F) c.burns=zbP (zjo w known m f t) (fun i=>F (bn w i)) w.Burns.length:=fun F=>by
    rw [zn9 hc.burns]
    unfold zhO
    rw [zjG]
    have:(fun i:Nat=>g F (i:Int))=fun i:Nat=>if (decide (f<(bn w i).Night) && decide ((bn w i).Night≤t))=true then F (bn w i) else 0:=by
     funext i
     simp only [g,Int.toNat_natCast,Bool.and_eq_true,decide_eq_true_eq]
    rw [this,zjz]
    rfl
   have k1:=key (fun b=>b.Minutes.Lo)
   have k2:=key (fun b=>b.Minutes.Hi)
   show Range.mk _ _=Range.mk _ _
   rw [k1,k2];rfl
structure Ends (S:List mantle_sight) (g b:Int):Prop where
 top:∀ x∈S,x.bad=false→x.night≤g
 good:g = -1∨∃ x∈S,x.bad=false∧x.night=g
 low:∀ x∈S,x.bad=true→b ≠ -1∧b≤x.night
 bad:b = -1∨∃ x∈S,x.bad=true∧x.night=b
 g0 : -1≤g
 b0 : -1≤b
theorem Ends.uniq {S:List mantle_sight} {g b g' b':Int} (h:Ends S g b) (h':Ends S g' b'):g=g'∧b=b':=by
 constructor
 · rcases h.good with e|⟨x,hx,h1,h2⟩ <;> rcases h'.good with e'|⟨y,hy,h3,h4⟩
   · omega
   · have:=h.top y hy h3;have:=h'.g0;have:=h.g0;omega
   · have:=h'.top x hx h1;have:=h'.g0;have:=h.g0;omega
   · have:=h.top y hy h3;have:=h'.top x hx h1;omega
 · rcases h.bad with e|⟨x,hx,h1,h2⟩ <;> rcases h'.bad with e'|⟨y,hy,h3,h4⟩
   · omega
   · exact absurd e (h.low y hy h3).1
   · exact absurd e' (h'.low x hx h1).1
   · have:=(h.low y hy h3).2;have:=(h'.low x hx h1).2;omega
theorem zoE (c:mantle_coat) (hn:∀ x∈c.sights,0≤x.night):Wp (zcm c) (fun r=>Ends c.sights r.1 r.2):=by
 unfold zcm
 refine zeg (fun i s=>Ends (c.sights.take i) s.1 s.2) ⟨fun x hx=>by simp [-List.getD_eq_getElem?_getD] at hx,.inl rfl,fun x hx=>by simp [-List.getD_eq_getElem?_getD] at hx,.inl rfl,by decide,by decide⟩ (fun i s K hi hI hK=>?_) (fun s hs=>zaA (by rw [List.take_length] at hs;exact hs))
 obtain ⟨g,b⟩:=s
 obtain ⟨h1,h2,h3,h4,h5,h6⟩:=hI
 simp only at h1 h2 h3 h4 h5 h6 ⊢
 have e:c.sights.getD i default=c.sights.getD i default:=rfl
 have hm:=zbF hi
 have h0:=hn _ hm
 generalize hx:c.sights.getD i default=x at hm h0 ⊢
 have hmem:∀ y,y∈c.sights.take (i+1)↔y∈c.sights.take i∨y=x:=fun y=>by rw [zbv hi,hx];simp [-List.getD_eq_getElem?_getD]
 refine zcw (fun hb=>hK _ ?_) (fun hb=>?_)
 · have hb':x.bad=false:=by simpa [-List.getD_eq_getElem?_getD] using hb
   refine ⟨fun y hy hyb=>?_,?_,fun y hy hyb=>?_,?_,?_,h6⟩
   · rcases (hmem y).1 hy with hy|rfl
     · have:=h1 y hy hyb;simp only;omega
     · simp only;omega
   · simp only
     rcases Int.le_total g x.night with hle|hle
     · exact .inr ⟨x,(hmem x).2 (.inr rfl),hb',by omega⟩
     · rcases h2 with e|⟨y,hy,y1,y2⟩
       · exact .inr ⟨x,(hmem x).2 (.inr rfl),hb',by omega⟩
       · exact .inr ⟨y,(hmem y).2 (.inl hy),y1,by omega⟩
   · rcases (hmem y).1 hy with hy|rfl
     · exact h3 y hy hyb
     · rw [hb'] at hyb;cases hyb
   · rcases h4 with e|⟨y,hy,y1,y2⟩
     · exact .inl e
     · exact .inr ⟨y,(hmem y).2 (.inl hy),y1,y2⟩
   · simp only;omega
 · have hb':x.bad=true:=by simpa [-List.getD_eq_getElem?_getD] using hb
   refine zcw (fun hc=>hK _ ?_) (fun hc=>hK _ ?_)
   · simp only [Bool.or_eq_true,decide_eq_true_eq] at hc
     refine ⟨fun y hy hyb=>?_,?_,fun y hy hyb=>?_,.inr ⟨x,(hmem x).2 (.inr rfl),hb',rfl⟩,h5,by simp only;omega⟩
     · rcases (hmem y).1 hy with hy|rfl
       · exact h1 y hy hyb
       · rw [hb'] at hyb;cases hyb
     · rcases h2 with e|⟨y,hy,y1,y2⟩
       · exact .inl e
       · exact .inr ⟨y,(hmem y).2 (.inl hy),y1,y2⟩
     · simp only
       rcases (hmem y).1 hy with hy|rfl
       · have:=h3 y hy hyb;omega
       · omega
   · simp only [Bool.or_eq_false_iff,decide_eq_false_iff_not] at hc
     refine ⟨fun y hy hyb=>?_,?_,fun y hy hyb=>?_,?_,h5,h6⟩
     · rcases (hmem y).1 hy with hy|rfl
       · exact h1 y hy hyb
       · rw [hb'] at hyb;cases hyb
     · rcases h2 with e|⟨y,hy,y1,y2⟩
       · exact .inl e
       · exact .inr ⟨y,(hmem y).2 (.inl hy),y1,y2⟩
     · rcases (hmem y).1 hy with hy|rfl
       · exact h3 y hy hyb
       · simp only;omega
     · rcases h4 with e|⟨y,hy,y1,y2⟩
       · exact .inl e
       · exact .inr ⟨y,(hmem y).2 (.inl hy),y1,y2⟩
theorem znA {w:Wear} (V:WearOk w) {known m f t t':Int} (h:t≤t'):zjj w known m f t≤zjj w known m f t':=by
 refine ziC (fun i hi=>by have:=(znw V hi).min;omega) (fun i hi hp=>?_)
 simp only [zjo,Bool.and_eq_true,decide_eq_true_eq] at hp ⊢
 exact ⟨hp.1,hp.2.1,by omega⟩
theorem zjV {w:Wear} (V:WearOk w) {known m f f' t t':Int} (h:t≤t') (hf:f'≤f):zfy w known m f t≤zfy w known m f' t':=by
 refine ziC (fun i hi=>by have:=(znw V hi).min;omega) (fun i hi hp=>?_)
 simp only [zjo,Bool.and_eq_true,decide_eq_true_eq] at hp ⊢
 exact ⟨hp.1,by omega,by omega⟩
theorem zlB {w:Wear} (V:WearOk w) (known m f t:Int):(0≤zjj w known m f t∧zjj w known m f t≤86400)∧(0≤zfy w known m f t∧zfy w known m f t≤86400):=sum60 V _ (Nat.le_refl _)
structure OkBy (w:Wear) (known m:Int) (S:List mantle_sight) (x:Int):Prop where
 range:0≤x∧x≤1000000
 good:∀ s∈S,s.bad=false→zjj w known m (-1) s.night≤x
 bad:∀ s∈S,s.bad=true→x<zfy w known m (-1) s.night
 two:∀ s∈S,∀ t∈S,s.bad=false→t.bad=true→s.night<t.night∧0<zfy w known m s.night t.night
def zj8 (w:Wear) (known m g b:Int):Range:=
 if g ≠ -1∧b ≠ -1∧(b≤g∨zfy w known m g b=0) then ⟨1,0⟩ else ⟨if g ≠ -1 then zjj w known m (-1) g else 0,if b ≠ -1 then min 1000000 (zfy w known m (-1) b - 1) else 1000000⟩
def inR (r:Range) (x:Int):Prop:=r.Lo≤x∧x≤r.Hi
theorem zmJ {w:Wear} (V:WearOk w) {known:Int} {m:Nat} {S:List mantle_sight} {c:mantle_coat} (hc:CoatOk w known m S c) (hn:∀ x∈S,0≤x.night) {g b:Int} (he:Ends S g b):zbm c=some (zj8 w known m g b):=by
 unfold zbm
 obtain ⟨r,e,hr⟩:=zoE c (by rw [hc.sights];exact hn)
 rw [hc.sights] at hr
 obtain ⟨e1,e2⟩:=hr.uniq he
 have er:r=(g,b):=Prod.ext e1 e2
 subst er
 refine Wp.eq (zaJ e ?_)
 have hb:=zlB V known m
 unfold zj8
 refine zgE (fun s=>s=if g ≠ -1 then zjj w known m (-1) g else 0) (fun K hK=>?_) (fun s hs=>?_)
 · refine zfq (fun h=>zaJ (zml V hc _ _) (hK _ ?_)) (fun h=>hK _ ?_)
   · rw [if_pos h]
   · rw [if_neg (by omega)]
 subst hs
 refine zgE (fun s=>s=if b ≠ -1 then min 1000000 (zfy w known m (-1) b - 1) else 1000000) (fun K hK=>?_) (fun s hs=>?_)
 · refine zfq (fun h=>zaJ (zml V hc _ _) (zai (by have:=hb (-1) b;simp only;omega) (hK _ ?_))) (fun h=>hK _ ?_)
   · rw [if_pos h]
   · rw [if_neg (by omega)]
 subst hs
 refine zkM (Q:=fun y=>y=⟨zjj w known m g b,zfy w known m g b⟩) (fun _=>⟨_,zml V hc _ _,rfl⟩) (fun y hy=>?_)
 simp only [Bool.and_eq_true,Bool.not_eq_true',decide_eq_false_iff_not] at hy
 refine zcw (fun h=>zaA ?_) (fun h=>zaA ?_)
 · simp only [Bool.and_eq_true,Bool.or_eq_true,Bool.not_eq_true',decide_eq_false_iff_not,decide_eq_true_eq] at h
   obtain ⟨⟨h1,h2⟩,h3⟩:=h
   have:b≤g∨zfy w known m g b=0:=by
    rcases h3 with h3|h3
    · exact .inl h3
    · by_cases h4:b≤g
      · exact .inl h4
      · rw [hy ⟨⟨h1,h2⟩,h4⟩] at h3;exact .inr h3
   rw [if_pos ⟨h1,h2,this⟩]
 · have:¬ (g ≠ -1∧b ≠ -1∧(b≤g∨zfy w known m g b=0)):=by
    rintro ⟨h1,h2,h3⟩
    have h5:(((!decide (g=(-1))) && (!decide (b=(-1)))) && ((decide (b≤g)) || (decide (y.Hi=0))))=true:=by
     simp only [Bool.and_eq_true,Bool.or_eq_true,Bool.not_eq_true',decide_eq_false_iff_not,decide_eq_true_eq]
     refine ⟨⟨h1,h2⟩,?_⟩
     by_cases h4:b≤g
     · exact .inl h4
     · rw [hy ⟨⟨h1,h2⟩,h4⟩];exact .inr (h3.resolve_left h4)
    rw [h5] at h;cases h
   rw [if_neg this]
theorem zk6 {w:Wear} (V:WearOk w) {known m:Int} {S:List mantle_sight} (hn:∀ x∈S,0≤x.night) {g b:Int} (he:Ends S g b) (x:Int):inR (zj8 w known m g b) x↔OkBy w known m S x:=by
 have hb:=zlB V known m
 unfold zj8
 by_cases hc:g ≠ -1∧b ≠ -1∧(b≤g∨zfy w known m g b=0)
 · rw [if_pos hc]
   obtain ⟨c1,c2,c3⟩:=hc
   refine ⟨fun h=>by have:=h.1;have:=h.2;simp only at *;omega,fun h=>?_⟩
   obtain ⟨s,hs,s1,s2⟩:=he.good.resolve_left c1
   obtain ⟨t,ht,t1,t2⟩:=he.bad.resolve_left c2
   have:=h.two s hs t ht s1 t1
   rw [s2,t2] at this
   omega
 · rw [if_neg hc]
   unfold inR
   simp only
   constructor
   · rintro ⟨h1,h2⟩
     refine ⟨?_,fun s hs sb=>?_,fun s hs sb=>?_,fun s hs t ht sb tb=>?_⟩
     · have:=hb (-1) g;have:=hb (-1) b
       constructor
       · split at h1 <;> omega
       · split at h2 <;> omega
     · have a:=he.top s hs sb
       have a0:=hn s hs
       rw [if_pos (by omega)] at h1
       have:=znA V (known:=known) (m:=m) (f:=-1) a
       omega
     · have a:=he.low s hs sb
       rw [if_pos a.1] at h2
       have:=zjV V (known:=known) (m:=m) (f:=-1) a.2 (Int.le_refl _)
       omega
     · have a:=he.top s hs sb
       have a0:=hn s hs
       have a2:=he.low t ht tb
       have:¬ (b≤g∨zfy w known m g b=0):=fun h=>hc ⟨by omega,a2.1,h⟩
       have h3:0<zfy w known m g b:=by have:=hb g b;omega
       have h4:=zjV V (known:=known) (m:=m) (f:=g) (f':=s.night) a2.2 a
       exact ⟨by omega,by omega⟩
   · intro h
     have hr:=h.range
     constructor
     · by_cases c1:g ≠ -1
       · rw [if_pos c1]
         obtain ⟨s,hs,s1,s2⟩:=he.good.resolve_left c1
         rw [← s2];exact h.good s hs s1
       · rw [if_neg c1];exact hr.1
     · by_cases c2:b ≠ -1
       · rw [if_pos c2]
         obtain ⟨t,ht,t1,t2⟩:=he.bad.resolve_left c2
         have:=h.bad t ht t1
         rw [t2] at this;omega
       · rw [if_neg c2];exact hr.2
theorem zoF (S:List mantle_sight) (hn:∀ x∈S,0≤x.night):∃ g b,Ends S g b:=by
 obtain ⟨r,_,h⟩:=zoE ⟨zoG,[],S⟩ hn
 exact ⟨_,_,h⟩
theorem znF {c:mantle_coat} {w:Wear} {known:Int} {m:Nat} {S:List mantle_sight} (hc:CoatOk w known m S c) (x:mantle_sight) (hl:S.length≤1000000):Wp (zbz c x) (fun r=>CoatOk w known m (S++[x]) r):=by
 unfold zbz zbL
 have e:=hc.sights
 refine wp_bind (Q:=fun y=>y=S) (za9 (by rw [e];simp [-List.getD_eq_getElem?_getD];omega) (zaA (by rw [e];simp [-List.getD_eq_getElem?_getD]))) (fun y hy=>?_)
 subst hy
 exact za9 (by simp [-List.getD_eq_getElem?_getD];omega) (zaA ⟨hc.wear,hc.burns,rfl⟩)
end Go.Sp
end
/- Plain laws, mantle: the closet that hang fills. No program in sight. -/
section
set_option linter.all false
namespace Go.Sp
open Go.Av
set_option maxRecDepth 100000
def ba (w:Wear) (i:Nat):Batch:=w.Batches.getD i default
def bat (w:Wear) (i:Nat):Int:=ze2 w (mt w i).Batch
theorem zm2 {w:Wear} (V:WearOk w) {i:Nat} (hi:i<w.Mantles.length):0≤bat w i∧bat w i<(w.Batches.length:Int):=by
 refine ⟨?_,zoQ w _⟩
 rcases Int.lt_or_le (bat w i) 0 with h|h
 · exact absurd (V.has i hi) (zhQ.1 h)
 · exact h
structure Hung (w:Wear) (known:Int) (S:Nat→List mantle_sight) (c:mantle_closet):Prop where
 wear:c.w=w
 asof:c.known=known
 coats:∀ i:Nat,i<w.Mantles.length→∃ x,c.coats.get (i:Int)=some x∧CoatOk w known i (S i) x
 len:c.lives.length=w.Batches.length
 lives:∀ b:Nat,b<w.Batches.length→∀ x,inR (c.lives.getD b default) x↔inR (ba w b).Life x∧∀ i,i<w.Mantles.length→bat w i=(b:Int)→OkBy w known i (S i) x
 nights:∀ i,i<w.Mantles.length→∀ s∈S i,0≤s.night
 few:∀ i,i<w.Mantles.length→(S i).length≤1000
def lk (l:List Look) (i:Nat):Look:=l.getD i default
def zc7 (w:Wear) (known:Int) (l:List Look) (m:Nat):Nat→List mantle_sight
 | 0=>[]
 | n+1=>if fit w (lk l n).Lamp (lk l n).Night known=(m:Int)∧zax (lk l n).Known (lk l n).Until known=true then zc7 w known l m n++[⟨(lk l n).Night,(lk l n).Bad⟩] else zc7 w known l m n
def sights (w:Wear) (known:Int) (l:List Look) (m:Nat):List mantle_sight:=zc7 w known l m l.length
theorem zen {w:Wear} {known:Int} {l:List Look} {m:Nat} {s:mantle_sight}:∀ {n:Nat},s∈zc7 w known l m n↔∃ i,i<n∧fit w (lk l i).Lamp (lk l i).Night known=(m:Int)∧zax (lk l i).Known (lk l i).Until known=true∧s=⟨(lk l i).Night,(lk l i).Bad⟩
 | 0=>⟨fun h=>(by cases h),fun ⟨i,hi,_⟩=>absurd hi (Nat.not_lt_zero _)⟩
 | n+1=>by
  unfold zc7
  by_cases hc:fit w (lk l n).Lamp (lk l n).Night known=(m:Int)∧zax (lk l n).Known (lk l n).Until known=true
  · rw [if_pos hc,List.mem_append,List.mem_singleton,zen]
    constructor
    · rintro (⟨i,hi,h⟩|h)
      · exact ⟨i,by omega,h⟩
      · exact ⟨n,by omega,hc.1,hc.2,h⟩
    · rintro ⟨i,hi,h⟩
      by_cases e:i=n
      · subst e;exact .inr h.2.2
      · exact .inl ⟨i,by omega,h⟩
  · rw [if_neg hc,zen]
    constructor
    · rintro ⟨i,hi,h⟩;exact ⟨i,by omega,h⟩
    · rintro ⟨i,hi,h⟩
      by_cases e:i=n
      · subst e;exact absurd ⟨h.1,h.2.1⟩ hc
      · exact ⟨i,by omega,h⟩
theorem zgI {w:Wear} {known:Int} {l:List Look} {m:Nat}:∀ n,(zc7 w known l m n).length≤n
 | 0=>by simp [-List.getD_eq_getElem?_getD,zc7]
 | n+1=>by
  unfold zc7
  have:=zgI (w:=w) (known:=known) (l:=l) (m:=m) n
  split
  · simp [-List.getD_eq_getElem?_getD];omega
  · omega
theorem zm1 {a b:Range} {x:Int}:inR (zaU a b) x↔inR a x∧inR b x:=by
 unfold zaU inR;simp only;omega
theorem zqc (c:mantle_closet) (hl:c.w.Mantles.length≤60):zbG c=some ((List.range' 0 c.w.Mantles.length).map (fun i:Nat=>((i:Int),(c.coats.get (i:Int)).getD default))):=by
 unfold zbG
 rw [ze9 (by omega),znt (fun _=>true) (fun i:Nat=>((i:Int),(c.coats.get (i:Int)).getD default)) (fun i r hi=>rfl)]
 rw [List.filter_eq_self.2 (fun _ _=>rfl)]
theorem zpR {A S R:Type} {body:A→S→(S→Option R)→Option R} {ex:S→Option R} {s0:S} {P:R→Prop} (n:Nat) (f:Nat→A) (Inv:Nat→S→Prop) (h0:Inv 0 s0)
 (hb:∀ (j:Nat) s (K:S→Option R),j<n→Inv j s→(∀ s',Inv (j+1) s'→Wp (K s') P)→Wp (body (f j) s K) P) (he:∀ s,Inv n s→Wp (ex s) P):Wp (zhY body ex ((List.range' 0 n).map f) s0) P:=by
 have go:∀ (m j:Nat),j+m=n→∀ s,Inv j s→Wp (zhY body ex ((List.range' j m).map f) s) P:=by
  intro m
  induction m with
  | zero=>intro j hj s hs;have e:j=n:=(by omega);subst e;exact he s hs
  | succ m ih=>
   intro j hj s hs
   rw [List.range'_succ,List.map_cons]
   exact hb j s _ (by omega) hs (fun s' h'=>ih (j+1) (by omega) s' h')
 exact go n 0 (by omega) s0 h0
theorem znZ {c:mantle_closet} {b:Nat} (hb:b<c.lives.length) (r:Range):zbn c (b:Int) r=some ⟨c.w,c.known,c.coats,c.lives.set b (zaU (c.lives.getD b default) r)⟩:=by
 unfold zbn
 rw [ze9 (by omega),ze9 (by omega)]
 rfl
theorem Mp.zki {T:Type} (m:Mp T) (k j:Int) (x:T):(m.set k x).get j=if j=k then some x else m.get j:=rfl
theorem zp6 {w:Wear} (V:WearOk w) {fuel:Nat} (hf:1000≤fuel) {l:List Look} (hl:l.length≤1000) (hn:∀ x∈l,0≤x.Night) (known:Int):Wp (zct fuel w l known) (fun c=>Hung w known (sights w known l) c):=by
 have nm:=V.nm;have nb:=V.nb
 unfold zct
 refine wp_bind (zpC V hf known) (fun y1 hy1=>zaq (by omega) ?_)
 refine zeg (fun i s=>∀ j:Nat,j<i→∃ x,s.get (j:Int)=some x∧CoatOk w known j [] x) (fun j hj=>absurd hj (Nat.not_lt_zero _)) (fun i s K hi hI hK=>hK _ (fun j hj=>?_)) (fun s3 h3=>?_)
 · by_cases e:j=i
   · subst e
     exact ⟨_,by rw [Mp.zki,if_pos rfl],rfl,hy1 _,rfl⟩
   · rw [Mp.zki,if_neg (by omega)]
     exact hI j (by omega)
 refine zeg (fun i s=>∀ j:Nat,j<w.Mantles.length→∃ x,s.get (j:Int)=some x∧CoatOk w known j (zc7 w known l j i) x) h3 (fun i s K hi hI hK=>?_) (fun s5 h5=>?_)
 · refine zaJ (zi1 w _ _ known) ?_
   have hfl:=zpM w (l.getD i default).Lamp (l.getD i default).Night known
   refine zcw (fun h=>?_) (fun h=>hK _ (fun j hj=>?_))
   · simp only [Bool.and_eq_true,decide_eq_true_eq] at h
     obtain ⟨m,hm⟩:∃ m:Nat,fit w (l.getD i default).Lamp (l.getD i default).Night known=(m:Int):=⟨_,(Int.toNat_of_nonneg h.1).symm⟩
     rw [hm] at hfl ⊢
     obtain ⟨x,e,hx⟩:=hI m (by omega)
     rw [e]
     refine wp_bind (znF hx _ (by have:=zgI (w:=w) (known:=known) (l:=l) (m:=m) i;omega)) (fun y hy=>hK _ (fun j hj=>?_))
     by_cases ej:j=m
     · subst ej
       refine ⟨y,by rw [Mp.zki,if_pos rfl],?_⟩
       unfold zc7
       rw [if_pos ⟨hm,h.2⟩]
       exact hy
     · rw [Mp.zki,if_neg (by omega)]
       unfold zc7
       rw [if_neg (fun h'=>ej (by have:=h'.1.symm.trans hm;omega))]
       exact hI j hj
   · unfold zc7
     rw [if_neg (fun h'=>?_)]
     · exact hI j hj
     · rw [Bool.and_eq_false_iff,decide_eq_false_iff_not] at h
       rcases h with h|h
       · exact h (by have:=h'.1;unfold lk at this;omega)
       · have:=h'.2;unfold lk at this;rw [this] at h;cases h
 refine zeg (fun i s=>s.length=i∧∀ b,b<i→s.getD b default=(ba w b).Life) ⟨rfl,fun b hb=>absurd hb (Nat.not_lt_zero _)⟩ (fun i s K hi hI hK=>za9 (by simp [-List.getD_eq_getElem?_getD];omega) (hK _ ⟨by simp [-List.getD_eq_getElem?_getD,hI.1],fun b hb=>?_⟩)) (fun s12 h12=>?_)
 · rw [zcz]
   by_cases e:b=s.length
   · rw [if_pos e,e,hI.1];rfl
   · rw [if_neg e];exact hI.2 b (by omega)
 refine zaJ (zqc _ nm) ?_
 refine zpR w.Mantles.length _ (fun j s=>s.length=w.Batches.length∧∀ b:Nat,b<w.Batches.length→∀ x,inR (s.getD b default) x↔inR (ba w b).Life x∧∀ i,i<j→bat w i=(b:Int)→OkBy w known i (sights w known l i) x)
  ⟨h12.1,fun b hb x=>by rw [h12.2 b hb];exact ⟨fun h=>⟨h,fun i hi=>absurd hi (Nat.not_lt_zero _)⟩,fun h=>h.1⟩⟩ (fun j s K hj hI hK=>?_) (fun s hs=>zaA ?_)
 · obtain ⟨x,e,hx⟩:=h5 j hj
   have hsn:∀ y∈sights w known l j,0≤y.night:=fun y hy=>by
    obtain ⟨i,hi,_,_,e⟩:=zen.1 hy
    rw [e];exact hn _ (zbF hi)
   obtain ⟨g,b,he⟩:=zoF (sights w known l j) hsn
   refine zaq (by omega) (zaJ (zhP w _) ?_)
   simp only [Int.toNat_natCast]
   have hbt:=zm2 V hj
   have ebt:ze2 w (w.Mantles.getD j default).Batch=bat w j:=rfl
   rw [e,ebt]
   obtain ⟨q,hq⟩:∃ q:Nat,bat w j=(q:Int):=⟨_,(Int.toNat_of_nonneg hbt.1).symm⟩
   rw [hq] at hbt ⊢
   refine zaJ (zmJ V hx hsn he) (zaJ (znZ (c:=⟨w,known,s5,s⟩) (by simp only;omega) _) (zaq (by simp [-List.getD_eq_getElem?_getD]) (hK _ ⟨by simp [-List.getD_eq_getElem?_getD,hI.1],fun b' hb' y=>?_⟩)))
   have hlm:=zk6 V hsn he y (known:=known) (m:=(j:Int))
   simp only
   rw [zkj _ _ _ _ _ (by omega)]
   by_cases eb:b'=q
   · subst eb
     rw [if_pos rfl,zm1,hI.2 b' hb',hlm]
     constructor
     · rintro ⟨⟨a1,a2⟩,a3⟩
       refine ⟨a1,fun i hi hbi=>?_⟩
       by_cases ei:i=j
       · rw [ei];exact a3
       · exact a2 i (by omega) hbi
     · rintro ⟨a1,a2⟩
       exact ⟨⟨a1,fun i hi hbi=>a2 i (by omega) hbi⟩,a2 j (by omega) hq⟩
   · rw [if_neg eb,hI.2 b' hb']
     constructor
     · rintro ⟨a1,a2⟩
       refine ⟨a1,fun i hi hbi=>?_⟩
       by_cases ei:i=j
       · rw [ei,hq] at hbi;omega
       · exact a2 i (by omega) hbi
     · rintro ⟨a1,a2⟩
       exact ⟨a1,fun i hi hbi=>a2 i (by omega) hbi⟩
 · refine ⟨rfl,rfl,h5,hs.1,hs.2,fun i hi y hy=>?_,fun i hi=>?_⟩
   · obtain ⟨k,hk,_,_,e⟩:=zen.1 hy
     rw [e];exact hn _ (zbF hk)
   · exact Nat.le_trans (zgI _) hl
def zc0 (w:Wear) (known:Int) (S:Nat→List mantle_sight):Prop:=∀ b:Nat,b<w.Batches.length→∃ x,inR (ba w b).Life x∧∀ i,i<w.Mantles.length→bat w i=(b:Int)→OkBy w known i (S i) x
theorem znj {w:Wear} {known:Int} {S:Nat→List mantle_sight} {c:mantle_closet} (h:Hung w known S c):Wp (zaQ c) (fun r=>r=true↔zc0 w known S):=by
 unfold zaQ
 refine zaJ (show zbB c.lives _=_ from zeE (q:=zaS) (fun x=>rfl) _) (zaA ?_)
 rw [Bool.not_eq_true',List.any_eq_false]
 constructor
 · intro h1 b hb
   have h2:=h1 _ (zbF (l:=c.lives) (i:=b) (by rw [h.len];exact hb))
   have h3:(c.lives.getD b default).Lo≤(c.lives.getD b default).Hi:=by
    simp only [zaS,decide_eq_true_eq] at h2;omega
   exact ⟨_,(h.lives b hb _).1 ⟨Int.le_refl _,h3⟩⟩
 · intro h1 r hr
   obtain ⟨b,hb,rfl⟩:=zb1 hr
   obtain ⟨x,hx⟩:=h1 b (by rw [← h.len];exact hb)
   have:=(h.lives b (by rw [← h.len];exact hb) x).2 hx
   unfold inR at this
   simp only [zaS,decide_eq_true_eq];omega
end Go.Sp
end
/- Plain laws, mantle: whether a mantle is bad. No program in sight. -/
section
set_option linter.all false
namespace Go.Sp
open Go.Av
set_option maxRecDepth 100000
def zeP (w:Wear) (known:Int) (S:Nat→List mantle_sight) (m:Nat) (night:Int) (bad:Bool):Prop:=
 ∃ x,(inR (ba w (bat w m).toNat).Life x∧∀ i,i<w.Mantles.length→bat w i=bat w m→OkBy w known i (S i) x)∧OkBy w known m (S m++[⟨night,bad⟩]) x
open Classical in
noncomputable def stateR (w:Wear) (known:Int) (S:Nat→List mantle_sight) (m:Nat) (night:Int):Int:=
 if ¬ zeP w known S m night true then 0 else if ¬ zeP w known S m night false then 1 else 2
theorem zpE {w:Wear} {known:Int} {S:Nat→List mantle_sight} {c:mantle_closet} (h:Hung w known S c) {m:Nat} (hm:m<w.Mantles.length):za6 c (m:Int)=some (bat w m):=by
 unfold za6
 rw [h.wear,ze9 (by omega)]
 refine Wp.eq (zaJ (zhP w _) (zaA ?_))
 rfl
theorem zpP {w:Wear} (V:WearOk w) {known:Int} {S:Nat→List mantle_sight} {c:mantle_closet} (h:Hung w known S c) {m:Nat} (hm:m<w.Mantles.length) {night:Int} (hn:0≤night) (bad:Bool) :
 Wp (zbN c (m:Int) night bad) (fun r=>∀ x,inR r x↔(inR (ba w (bat w m).toNat).Life x∧∀ i,i<w.Mantles.length→bat w i=bat w m→OkBy w known i (S i) x)∧OkBy w known m (S m++[⟨night,bad⟩]) x):=by
 unfold zbN
 have hb:=zm2 V hm
 obtain ⟨x,e,hx⟩:=h.coats m hm
 obtain ⟨q,hq⟩:∃ q:Nat,bat w m=(q:Int):=⟨_,(Int.toNat_of_nonneg hb.1).symm⟩
 refine zaJ (zpE h hm) ?_
 rw [hq] at hb ⊢
 refine zaq (by rw [h.len];omega) ?_
 rw [e]
 refine wp_bind (znF hx _ (by have:=h.few m hm;omega)) (fun y hy=>?_)
 have hsn:∀ s∈S m++[⟨night,bad⟩],0≤s.night:=fun s hs=>by
  rcases List.mem_append.1 hs with hs|hs
  · exact h.nights m hm s hs
  · rw [List.mem_singleton] at hs;subst hs;exact hn
 obtain ⟨g,b,he⟩:=zoF _ hsn
 refine zaJ (zmJ V hy hsn he) (zaA (fun z=>?_))
 rw [zm1,zk6 V hsn he,Int.toNat_natCast,h.lives q (by omega)]
theorem zmD {r:Range}:zaS r=true↔∀ x,¬ inR r x:=by
 unfold zaS inR
 rw [decide_eq_true_eq]
 exact ⟨fun h x hx=>by omega,fun h=>by have:=h r.Lo;omega⟩
theorem zo2 {w:Wear} (V:WearOk w) {known:Int} {S:Nat→List mantle_sight} {c:mantle_closet} (h:Hung w known S c) {m:Nat} (hm:m<w.Mantles.length) {night:Int} (hn:0≤night):zaT c (m:Int) night=some (stateR w known S m night):=by
 unfold zaT
 refine Wp.eq (wp_bind (zpP V h hm hn true) (fun y1 h1=>?_))
 have e1:zaS y1=true↔¬ zeP w known S m night true:=by
  rw [zmD]
  exact ⟨fun k ⟨x,hx⟩=>k x ((h1 x).2 hx),fun k x hx=>k ⟨x,(h1 x).1 hx⟩⟩
 unfold stateR
 refine zcw (fun hb=>zaA ?_) (fun hb=>wp_bind (zpP V h hm hn false) (fun y4 h4=>?_))
 · rw [if_pos (e1.1 hb)]
 have c1:¬ ¬ zeP w known S m night true:=fun k=>by rw [e1.2 k] at hb;cases hb
 rw [if_neg c1]
 have e4:zaS y4=true↔¬ zeP w known S m night false:=by
  rw [zmD]
  exact ⟨fun k ⟨x,hx⟩=>k x ((h4 x).2 hx),fun k x hx=>k ⟨x,(h4 x).1 hx⟩⟩
 refine zcw (fun hb=>zaA ?_) (fun hb=>zaA ?_)
 · rw [if_pos (e4.1 hb)]
 · rw [if_neg (fun k=>by rw [e4.2 k] at hb;cases hb)]
def zaR (n:Int):Prop:=0≤n∧n≤100000
instance (n:Int):Decidable (zaR n):=inferInstanceAs (Decidable (_∧_))
theorem ziW {n:Int}:zaL n=true↔zaR n:=by simp [-List.getD_eq_getElem?_getD,zaL,zaK,zaR]
theorem zk3 {w:Wear} (V:WearOk w) {l:List Int} (h:∀ n∈l,zaR n):zba w l=some 0:=by
 unfold zba
 refine Wp.eq (zaJ (ziQ V) (zbA (by simp [-List.getD_eq_getElem?_getD]) (zaJ (show zbk l _=_ from zeE (q:=zbl) (fun x=>rfl) _) ?_)))
 refine zbA ?_ (zaA rfl)
 rw [List.any_eq_false]
 intro n hn
 simp [-List.getD_eq_getElem?_getD,zbl,ziW.2 (h n hn)]
theorem zjF {w:Wear} (V:WearOk w) {l:List Int} (h:¬ ∀ n∈l,zaR n):zba w l=some 6:=by
 unfold zba
 refine Wp.eq (zaJ (ziQ V) (zbA (by simp [-List.getD_eq_getElem?_getD]) (zaJ (show zbk l _=_ from zeE (q:=zbl) (fun x=>rfl) _) ?_)))
 refine zcI ?_ (zaA rfl)
 rw [List.any_eq_true]
 refine Classical.byContradiction (fun k=>h (fun n hn=>?_))
 refine Classical.byContradiction (fun k2=>k ⟨n,hn,?_⟩)
 unfold zbl
 cases h3:zaL n with
 | false=>rfl
 | true=>exact absurd (ziW.1 h3) k2
theorem znd {w:Wear} (hf:Fits w) (V:¬ WearOk w) (l:List Int):zba w l=some 64:=by
 unfold zba
 exact Wp.eq (zaJ (zng hf V) (zcI (by simp [-List.getD_eq_getElem?_getD]) (zaA rfl)))
def zb3 (w:Wear) (lamp night known:Int):Int:=if ¬ (1≤lamp∧lamp≤999) then 1 else if ¬ (zaR night∧zaR known) then 6 else if fit w lamp night known<0 then 66 else 0
theorem zla {w:Wear} {lamp night known:Int} (h:¬ (1≤lamp∧lamp≤999)):zb3 w lamp night known=1:=by unfold zb3;exact if_pos h
theorem zk9 {w:Wear} {lamp night known:Int} (h:1≤lamp∧lamp≤999) (h2:¬ (zaR night∧zaR known)):zb3 w lamp night known=6:=by
 unfold zb3
 exact (if_neg (fun k=>k h)).trans (if_pos h2)
theorem zjI {w:Wear} {lamp night known:Int} (h:1≤lamp∧lamp≤999) (h2:zaR night∧zaR known) (h3:fit w lamp night known<0):zb3 w lamp night known=66:=by
 unfold zb3
 exact (if_neg (fun k=>k h)).trans ((if_neg (fun k=>k h2)).trans (if_pos h3))
theorem zof {w:Wear} {lamp night known:Int} (h:1≤lamp∧lamp≤999) (h2:zaR night∧zaR known) (h3:¬ fit w lamp night known<0):zb3 w lamp night known=0:=by
 unfold zb3
 exact (if_neg (fun k=>k h)).trans ((if_neg (fun k=>k h2)).trans (if_neg h3))
theorem zoe {w:Wear} (V:WearOk w) (lamp night known:Int):zc4 w lamp night known=some (if zb3 w lamp night known=0 then fit w lamp night known else 0,zb3 w lamp night known):=by
 unfold zc4
 refine Wp.eq (zaJ (ziQ V) (zbA (by simp [-List.getD_eq_getElem?_getD]) ?_))
 have e:(!(zaN lamp))=decide (¬ (1≤lamp∧lamp≤999)):=by
  rw [Bool.eq_iff_iff];simp [-List.getD_eq_getElem?_getD,zaN,zaK]
 rw [e]
 refine zb2 (fun h=>zaA ?_) (fun h=>?_)
 · rw [zla h];rfl
 have h:=Classical.not_not.1 h
 by_cases hn:zaR night∧zaR known
 · refine zaJ (zk3 V (fun n hn'=>by
    simp only [List.mem_cons,List.not_mem_nil,or_false] at hn'
    rcases hn' with rfl|rfl
    · exact hn.1
    · exact hn.2)) (zbA (by simp [-List.getD_eq_getElem?_getD]) (zaJ (zi1 w _ _ _) ?_))
   refine zb2 (fun h2=>zaA ?_) (fun h2=>zaA ?_)
   · rw [zjI h hn h2];rfl
   · rw [zof h hn h2];rfl
 · rw [zk9 h hn]
   exact zaJ (zjF V (fun k=>hn ⟨k night (by simp [-List.getD_eq_getElem?_getD]),k known (by simp [-List.getD_eq_getElem?_getD])⟩)) (zcI (by simp [-List.getD_eq_getElem?_getD]) (zaA rfl))
theorem zhZ {w:Wear} {lamp night known:Int} (h:zb3 w lamp night known=0):(1≤lamp∧lamp≤999)∧zaR night∧zaR known∧0≤fit w lamp night known:=by
 by_cases h1:1≤lamp∧lamp≤999
 · by_cases h2:zaR night∧zaR known
   · by_cases h3:fit w lamp night known<0
     · rw [zjI h1 h2 h3] at h;omega
     · exact ⟨h1,h2.1,h2.2,by omega⟩
   · rw [zk9 h1 h2] at h;omega
 · rw [zla h1] at h;omega
end Go.Sp
end
/- Plain laws, mantle: the document's lives and states. No program in sight. -/
section
set_option linter.all false
namespace Go.Sp
open Go.Av
set_option maxRecDepth 100000
structure ToldL (known:Int) (L:List Look):Prop where
 few:L.length≤900
 night:∀ l∈L,0≤l.Night
 cnt:∀ l∈L,zax l.Known l.Until known=true
def tells (w:Wear) (known:Int) (l:Look):Bool:=decide (0≤fit w l.Lamp l.Night known) && zax l.Known l.Until known
def zo1 (w:Wear) (known:Int):List Look:=w.Looks.filter (tells w known)
theorem look_ok {w:Wear} (V:WearOk w) {l:Look} (h:l∈w.Looks):zlF l:=V.lo.ok h
theorem zm6 {w:Wear} {known:Int} {L:List Look} {m:Nat} {s:mantle_sight} (h:s∈sights w known L m):∃ lamp,FitIs w lamp s.night known w.Mantles.length m:=by
 obtain ⟨i,_,h1,_,h3⟩:=zen.1 h
 refine ⟨(lk L i).Lamp,?_⟩
 rw [h3]
 exact fit_is h1
theorem zp3 {w:Wear} (V:WearOk w) {q:Nat} (hq:q<w.Batches.length) {x:Int} (h:inR (ba w q).Life x):0≤x∧x≤1000000:=by
 have:=(V.ba q hq).1.life
 unfold inR ba at h
 omega
theorem zpg {w:Wear} {known m x:Int} (h:0≤x∧x≤1000000):OkBy w known m [] x:=⟨h,fun s hs=>(by cases hs),fun s hs=>(by cases hs),fun s hs=>(by cases hs)⟩
def zhs (w:Wear) (known:Int) (S:Nat→List mantle_sight) (q:Nat) (x:Int):Prop:=inR (ba w q).Life x∧∀ i,i<w.Mantles.length→bat w i=(q:Int)→OkBy w known i (S i) x
end Go.Sp
end
/- Plain laws, mantle: states by both; MantleAges. No program in sight. -/
section
set_option linter.all false
namespace Go.Sp
open Go.Av
set_option maxRecDepth 100000
theorem zlw {w:Wear} (V:WearOk w) {known:Int} {S:Nat→List mantle_sight} {m:Nat} (hm:m<w.Mantles.length) {night:Int} {bad:Bool} :
 zeP w known S m night bad↔∃ x,zhs w known S (bat w m).toNat x∧OkBy w known m (S m++[⟨night,bad⟩]) x:=by
 have hb:=zm2 V hm
 have e:(((bat w m).toNat:Nat):Int)=bat w m:=by omega
 unfold zeP zhs
 rw [e]
theorem zmt {w:Wear} {known:Int} {S:Nat→List mantle_sight} {m:Nat} {night:Int} (h:¬ zeP w known S m night true):stateR w known S m night=0:=by unfold stateR;exact if_pos h
theorem zms {w:Wear} {known:Int} {S:Nat→List mantle_sight} {m:Nat} {night:Int} (h:zeP w known S m night true) (h2:¬ zeP w known S m night false):stateR w known S m night=1:=by unfold stateR;exact (if_neg (fun k=>k h)).trans (if_pos h2)
theorem zmr {w:Wear} {known:Int} {S:Nat→List mantle_sight} {m:Nat} {night:Int} (h:zeP w known S m night true) (h2:zeP w known S m night false):stateR w known S m night=2:=by unfold stateR;exact (if_neg (fun k=>k h)).trans (if_neg (fun k=>k h2))
end Go.Sp
end
/- Plain laws, mantle: State, Age, Fitted by both; MantleAges. No program in sight. -/
section
set_option linter.all false
namespace Go.Sp
open Go.Av
set_option maxRecDepth 100000
def zkS (w:Wear) (known:Int) (m:Nat) (l:Look):Bool:=decide (fit w l.Lamp l.Night known=(m:Int)) && zax l.Known l.Until known
def toS (l:Look):mantle_sight:=⟨l.Night,l.Bad⟩
theorem zjA {w:Wear} {known:Int} {l:List Look} {m:Nat}:∀ {n:Nat},n≤l.length→zc7 w known l m n=((l.take n).filter (zkS w known m)).map toS
 | 0,_=>rfl
 | n+1,h=>by
  rw [zbv (by omega),List.filter_append,List.map_append,← zjA (by omega)]
  rw [show zc7 w known l m (n+1)=if fit w (lk l n).Lamp (lk l n).Night known=(m:Int)∧zax (lk l n).Known (lk l n).Until known=true then zc7 w known l m n++[⟨(lk l n).Night,(lk l n).Bad⟩] else zc7 w known l m n from rfl]
  by_cases hc:fit w (lk l n).Lamp (lk l n).Night known=(m:Int)∧zax (lk l n).Known (lk l n).Until known=true
  · have:zkS w known m (l.getD n default)=true:=by unfold zkS;rw [Bool.and_eq_true,decide_eq_true_eq];exact hc
    rw [if_pos hc];simp [-List.getD_eq_getElem?_getD,this,toS,lk]
  · have:zkS w known m (l.getD n default)=false:=by
     rw [← Bool.not_eq_true];unfold zkS;rw [Bool.and_eq_true,decide_eq_true_eq];exact hc
    rw [if_neg hc];simp [-List.getD_eq_getElem?_getD,this]
theorem zg4 (w:Wear) (known:Int) (l:List Look) (m:Nat):sights w known l m=(l.filter (zkS w known m)).map toS:=by
 unfold sights
 rw [zjA (Nat.le_refl _),List.take_length]
theorem zoa {w:Wear} (V:WearOk w):w.Looks.length≤1000∧∀ x∈w.Looks,0≤x.Night:=⟨by have:=V.nl;omega,fun x hx=>(look_ok V hx).night.1⟩
abbrev allS (w:Wear) (known:Int):Nat→List mantle_sight:=sights w known w.Looks
theorem zo3 {w:Wear} (V:WearOk w) {fuel:Nat} (hf:1000≤fuel) (known:Int):Wp (zds fuel w known) (fun r=>(zc0 w known (allS w known)∧r.2=0∧Hung w known (allS w known) r.1)∨(¬ zc0 w known (allS w known)∧r.2=65)):=by
 unfold zds
 refine wp_bind (zp6 V hf (zoa V).1 (zoa V).2 known) (fun c hc=>wp_bind (znj hc) (fun b hb=>?_))
 refine zcw (fun h=>zaA (.inr ⟨fun k=>?_,rfl⟩)) (fun h=>zaA (.inl ⟨hb.1 (by simpa [-List.getD_eq_getElem?_getD] using h),rfl,hc⟩))
 rw [hb.2 k] at h;cases h
open Classical in
noncomputable def stateV (w:Wear) (lamp night known:Int):Int×Int:=
 if zb3 w lamp night known≠0 then (0,zb3 w lamp night known) else if zc0 w known (allS w known) then (stateR w known (allS w known) (fit w lamp night known).toNat night,0) else (0,65)
theorem zht {w:Wear} {lamp night known:Int} (h:zb3 w lamp night known≠0):stateV w lamp night known=(0,zb3 w lamp night known):=by unfold stateV;exact if_pos h
theorem ziD {w:Wear} {lamp night known:Int} (h:zb3 w lamp night known=0) (h2:zc0 w known (allS w known)):stateV w lamp night known=(stateR w known (allS w known) (fit w lamp night known).toNat night,0):=by unfold stateV;exact (if_neg (fun k=>k h)).trans (if_pos h2)
theorem zfF {w:Wear} {lamp night known:Int} (h:zb3 w lamp night known=0) (h2:¬ zc0 w known (allS w known)):stateV w lamp night known=(0,65):=by unfold stateV;exact (if_neg (fun k=>k h)).trans (if_neg h2)
theorem zfP {w:Wear} (V:WearOk w) {fuel:Nat} (hf:1000≤fuel) (lamp night known:Int):zbH fuel w lamp night known=some (stateV w lamp night known):=by
 unfold zbH
 refine Wp.eq (zaJ (zoe V lamp night known) ?_)
 refine zfq (fun h=>zaA (zht h).symm) (fun h=>?_)
 have h:zb3 w lamp night known=0:=h
 obtain ⟨h1,h2,h3,h4⟩:=zhZ h
 simp only [h,if_true]
 have hlt:=zpM w lamp night known
 obtain ⟨m,hm⟩:∃ m:Nat,fit w lamp night known=(m:Int):=⟨_,(Int.toNat_of_nonneg h4).symm⟩
 refine wp_bind (zo3 V hf known) (fun r hr=>?_)
 rcases hr with ⟨k1,k2,k3⟩|⟨k1,k2⟩
 · refine zfq (fun h=>absurd k2 h) (fun _=>?_)
   rw [hm] at hlt ⊢
   refine zaJ (zo2 V k3 (by omega) h2.1) (zaA ?_)
   rw [ziD h k1,hm,Int.toNat_natCast]
 · refine zfq (fun _=>zaA ?_) (fun h=>by omega)
   rw [zfF h k1,k2]
end Go.Sp
end
/- Plain laws, mantle: Life, Sound, Clash by both. No program in sight. -/
section
set_option linter.all false
namespace Go.Sp
open Go.Av
set_option maxRecDepth 100000
structure LifeV (w:Wear) (known:Int) (id:Int) (r:Range×Int):Prop where
 inv:¬ WearOk w→r=(⟨0,0⟩,64)
 day:WearOk w→¬ zaR known→r=(⟨0,0⟩,6)
 none:WearOk w→zaR known→ze2 w id<0→r=(⟨0,0⟩,3)
 fals:WearOk w→zaR known→0≤ze2 w id→¬ zc0 w known (allS w known)→r=(⟨0,0⟩,65)
 ok:WearOk w→zaR known→0≤ze2 w id→zc0 w known (allS w known)→r.2=0∧∀ x,inR r.1 x↔zhs w known (allS w known) (ze2 w id).toNat x
structure SoundV (w:Wear) (known:Int) (r:Bool×Int):Prop where
 inv:¬ WearOk w→r=(false,64)
 day:WearOk w→¬ zaR known→r=(false,6)
 ok:WearOk w→zaR known→r.2=0∧(r.1=true↔zc0 w known (allS w known))
def without (l:List Look) (i:Nat):List Look:=l.take i++l.drop (i+1)
open Classical in
noncomputable def clashF (w:Wear) (known:Int):Nat→List Look→List Look
 | 0,l=>l
 | n+1,l=>if zc0 w known (sights w known (without l n)) then clashF w known n l else clashF w known n (without l n)
structure ClashV (w:Wear) (known:Int) (r:List Int×Int):Prop where
 inv:¬ WearOk w→r=([],64)
 day:WearOk w→¬ zaR known→r=([],6)
 none:WearOk w→zaR known→zc0 w known (allS w known)→r=([],3)
 ok:WearOk w→zaR known→¬ zc0 w known (allS w known)→r=((clashF w known (zo1 w known).length (zo1 w known)).map (·.Source),0)
end Go.Sp
end
/- Plain laws, mantle: CheckClash by both; MantleLives. No program in sight. -/
section
set_option linter.all false
namespace Go.Sp
open Go.Av
set_option maxRecDepth 100000
structure Picks (w:Wear) (known:Int) (q:List Int) (n:Nat) (s:List Look):Prop where
 len:s.length=n
 mem:∀ j,j<n→lk s j∈zo1 w known∧(lk s j).Source=q.getD j default
 ris:∀ j,0<j→j<n→q.getD (j - 1) default<q.getD j default
theorem Picks.all {w:Wear} {known:Int} {q:List Int} {n:Nat} {s:List Look} (h:Picks w known q n s):∀ l∈s,l∈zo1 w known:=fun l hl=>by
 obtain ⟨i,hi,e⟩:=zb1 hl
 have:=(h.mem i (by have:=h.len;omega)).1
 unfold lk at this
 rwa [e] at this
def CC (w:Wear) (known:Int) (q:List Int):Prop:=∃ s,Picks w known q q.length s∧¬ zc0 w known (sights w known s)∧∀ i,i<s.length→zc0 w known (sights w known (without s i))
structure CheckV (w:Wear) (known:Int) (q:List Int) (r:Int):Prop where
 inv:¬ WearOk w→r=64
 day:WearOk w→¬ zaR known→r=6
 yes:WearOk w→zaR known→CC w known q→r=0
 no:WearOk w→zaR known→¬ CC w known q→r=68
end Go.Sp
end
/- Plain laws, mantle: slices.Compact; a wear without a source; Moved by both; MantleMoves. No program in sight. -/
section
set_option linter.all false
namespace Go.Sp
open Go.Av
set_option maxRecDepth 100000
theorem zqi {l:List Int} (h:∀ i,0<i→i<l.length→l.getD (i - 1) default<l.getD i default):l.Pairwise (· < ·):=zjX (fun x:Int=>x) h
theorem zp2 {l:List Int} (h:l.Pairwise (· < ·)) {i j:Nat} (hij:i<j) (hj:j<l.length):l.getD i default<l.getD j default:=zkQ (f:=fun x:Int=>x) h hij hj
theorem leAdj {l:List Int} (h:l.Pairwise (· ≤ ·)) {i:Nat} (h0:0<i) (hi:i<l.length):l.getD (i - 1) default≤l.getD i default:=by
 have:=List.pairwise_iff_getElem.1 h (i - 1) i (by omega) hi (by omega)
 rw [List.getD_eq_getElem?_getD,List.getD_eq_getElem?_getD,List.getElem?_eq_getElem hi,List.getElem?_eq_getElem (by omega)]
 exact this
theorem zha {l:List Int} {i:Nat} (hi:i<l.length) (x:Int):x∈l.take (i+1)↔x∈l.take i∨x=l.getD i default:=by rw [zbv hi];simp only [List.mem_append,List.mem_singleton]
theorem znu {fuel:Nat} (hf:1000≤fuel) {l:List Int} (hl:l.length≤900) (hs:l.Pairwise (· ≤ ·)):Wp (zb7 fuel l) (fun r=>r.Pairwise (· < ·)∧(∀ x,x∈r↔x∈l)∧r.length≤l.length):=by
 unfold zb7
 refine zb2 (fun h=>zaA ⟨zqi (fun i h0 hi=>by omega),fun x=>Iff.rfl,Nat.le_refl _⟩) (fun h=>?_)
 refine wp_loop (fun s=>∃ k:Nat,s=(k:Int)∧1≤k∧k≤l.length∧∀ j,0<j→j<k→l.getD (j - 1) default<l.getD j default) (fun s=>l.length - s.toNat) (by omega) ⟨1,rfl,Nat.le_refl _,by omega,fun j h0 hj=>by omega⟩ (fun s K hI hK=>?_)
 obtain ⟨k,rfl,k1,k2,k3⟩:=hI
 by_cases hk':¬ k<l.length
 · have:k=l.length:=by omega
   subst this
   exact zbA (by simp [-List.getD_eq_getElem?_getD]) (zaA ⟨zqi k3,fun x=>Iff.rfl,Nat.le_refl _⟩)
 have hk:=Classical.not_not.1 hk'
 refine zcI (by simp [-List.getD_eq_getElem?_getD];omega) (zaq (by omega) (zai (by omega) (zaq (by omega) ?_)))
 have e:((k:Int) - 1).toNat=k - 1:=by omega
 rw [e,Int.toNat_natCast]
 have hle:=leAdj hs (i:=k) (by omega) hk
 refine zb2 (fun he=>?_) (fun hne=>zai (by omega) (hK _ ⟨k+1,by simp [-List.getD_eq_getElem?_getD],by omega,by omega,fun j h0 hj=>?_⟩ (by omega)))
 · have hst:(l.take k).Pairwise (· < ·):=by
    refine zqi (fun i h0 hi=>?_)
    rw [List.length_take] at hi
    rw [getD_take,getD_take,if_pos (by omega),if_pos (by omega)]
    exact k3 i h0 (by omega)
   refine zaq (by omega) ?_
   refine wp_loop (fun s=>∃ (i j:Nat),s.1=(i:Int)∧s.2.1=(j:Int)∧0<i∧i+1≤k+j∧1≤j∧k+j≤l.length∧s.2.2.length=l.length∧(∀ q,k+j≤q+1→s.2.2.getD q default=l.getD q default)∧(s.2.2.take i).Pairwise (· < ·)∧(∀ x,x∈s.2.2.take i↔x∈l.take (k+j))∧s.2.2.getD (i - 1) default=l.getD (k+j - 1) default)
    (fun s=>l.length - s.2.1.toNat) (by simp only;omega) ⟨k,1,rfl,rfl,by omega,by omega,Nat.le_refl _,by omega,rfl,fun q _=>rfl,hst,fun x=>?_,he.symm⟩ (fun s K2 hI2 hK2=>?_)
   · rw [zha hk,he]
     refine ⟨fun h=>.inl h,fun h=>h.elim id (fun h=>?_)⟩
     rw [h]
     have:(l.take k).getD (k - 1) default∈l.take k:=zbF (by rw [List.length_take];omega)
     rwa [getD_take,if_pos (by omega)] at this
   · obtain ⟨a,b,cur⟩:=s
     obtain ⟨i,j,i1,i2,i3,i4,i5,i6,i7,i8,i9,i10,i11⟩:=hI2
     simp only at i1 i2 i7 i8 i9 i10 i11 hK2 ⊢
     subst i1;subst i2
     by_cases hj':¬ k+j<l.length
     · have ek:k+j=l.length:=by omega
       refine zbA (by simp [-List.getD_eq_getElem?_getD];omega) (zaq (by omega) (zaq (by rw [zbE];omega) (zaA ?_)))
       rw [Int.toNat_natCast,ziB _ _ _ _ (by omega)]
       refine ⟨i9,fun x=>?_,by rw [List.length_take];omega⟩
       rw [i10,ek,List.take_length]
     have hj:=Classical.not_not.1 hj'
     have e2:((j:Int) - 1).toNat=j - 1:=by omega
     refine zcI (by simp [-List.getD_eq_getElem?_getD];omega) (zaq (by omega) (zai (by omega) (zaq (by omega) ?_)))
     rw [e2,Int.toNat_natCast,i8 (k+j) (by omega),i8 (k+(j - 1)) (by omega)]
     have e3:k+(j - 1)=k+j - 1:=by omega
     rw [e3]
     have hle2:=leAdj hs (i:=k+j) (by omega) hj
     have hmt:=zha hj
     refine zfq (fun hne=>zaq (by omega) (zaq (by omega) (zai (by omega) (zai (by omega) (hK2 _ ⟨i+1,j+1,by simp [-List.getD_eq_getElem?_getD],by simp [-List.getD_eq_getElem?_getD],by omega,by omega,by omega,by omega,by simp only [List.length_set];exact i7,fun q hq=>?_,?_,fun x=>?_,?_⟩ (by simp only;omega)))))) (fun heq=>zai (by omega) (hK2 _ ⟨i,j+1,by simp [-List.getD_eq_getElem?_getD],by simp [-List.getD_eq_getElem?_getD],i3,by omega,by omega,by omega,i7,fun q hq=>i8 q (by omega),i9,fun x=>?_,?_⟩ (by simp only;omega)))
     · simp only [Int.toNat_natCast]
       rw [zkj _ _ _ _ _ (by omega),if_neg (by omega)]
       exact i8 q (by omega)
     · simp only [Int.toNat_natCast]
       rw [zgG (by omega),List.pairwise_append]
       refine ⟨i9,List.pairwise_singleton _ _,fun y hy z hz=>?_⟩
       rw [List.mem_singleton] at hz
       rw [hz]
       obtain ⟨q,hq,rfl⟩:=zb1 hy
       rw [List.length_take] at hq
       have h1:(cur.take i).getD q default≤cur.getD (i - 1) default:=by
        have e5:cur.getD (i - 1) default=(cur.take i).getD (i - 1) default:=by rw [getD_take,if_pos (by omega)]
        rw [e5]
        by_cases eq:q=i - 1
        · rw [eq];exact Int.le_refl _
        · have:=zp2 i9 (i:=q) (j:=i - 1) (by omega) (by rw [List.length_take];omega)
          omega
       omega
     · simp only [Int.toNat_natCast]
       rw [zgG (by omega),List.mem_append,List.mem_singleton,i10,show k+(j+1)=k+j+1 by omega,hmt]
     · simp only [Int.toNat_natCast]
       rw [show i+1 - 1=i by omega,zkj _ _ _ _ _ (by omega),if_pos rfl,show k+(j+1) - 1=k+j by omega]
     · rw [i10,show k+(j+1)=k+j+1 by omega,hmt]
       refine ⟨fun h=>.inl h,fun h=>h.elim id (fun h=>?_)⟩
       rw [h,heq]
       have:(l.take (k+j)).getD (k+j - 1) default∈l.take (k+j):=zbF (by rw [List.length_take];omega)
       rwa [getD_take,if_pos (by omega)] at this
     · rw [i11,show k+(j+1) - 1=k+j by omega];exact heq.symm
 · by_cases ej:j=k
   · rw [ej];omega
   · exact k3 j h0 (by omega)
def zez (w:Wear) (src:Int):Wear:=⟨w.Batches,w.Mantles.filter (fun m=>!decide (m.Source=src)),w.Burns.filter (fun b=>!decide (b.Source=src)),w.Looks.filter (fun l=>!decide (l.Source=src))⟩
theorem zdO {T:Type} [Inhabited T] {ok:T→Prop} {num:T→Int} {l:List T} (h:zfp ok num l) (p:T→Bool):zfp ok num (l.filter p):=by
 have hs:(l.filter p).Pairwise (fun a b=>num a<num b):=List.Pairwise.sublist List.filter_sublist h.sorted
 intro i hi
 refine ⟨h.ok (List.mem_filter.1 (zbF hi)).1,fun h0=>zkQ hs (by omega) hi⟩
theorem zmK {w:Wear} (V:WearOk w) (src:Int):WearOk (zez w src):=by
 refine ⟨V.nb,Nat.le_trans (List.length_filter_le _ _) V.nm,Nat.le_trans (List.length_filter_le _ _) V.nu,Nat.le_trans (List.length_filter_le _ _) V.nl,V.ba,zdO V.ma _,zdO V.bu _,zdO V.lo _,fun i hi=>?_⟩
 have:=(List.mem_filter.1 (zbF hi)).1
 obtain ⟨j,hj,e⟩:=zb1 this
 obtain ⟨q,hq,eq⟩:=V.has j hj
 exact ⟨q,hq,eq.trans (congrArg Mantle.Batch e)⟩
def total (w:Wear):Nat:=w.Mantles.length+w.Burns.length+w.Looks.length
theorem zoZ (w:Wear) (src:Int):total (zez w src)≤total w:=by
 unfold total zez
 have h1:=List.length_filter_le (fun m:Mantle=>!decide (m.Source=src)) w.Mantles
 have h2:=List.length_filter_le (fun m:Burn=>!decide (m.Source=src)) w.Burns
 have h3:=List.length_filter_le (fun m:Look=>!decide (m.Source=src)) w.Looks
 simp only
 omega
theorem zlQ {w:Wear} (V:WearOk w) {fuel:Nat} (hf:1000≤fuel) (src:Int):zbI fuel w src=some (zez w src,decide (total (zez w src)<total w)):=by
 have nb:=V.nb;have nm:=V.nm;have nu:=V.nu;have nl:=V.nl
 unfold zbI
 refine Wp.eq (za9 (by simp [-List.getD_eq_getElem?_getD];omega) ?_)
 refine zfz w.Mantles.length (by omega) (fun i s=>s=(w.Mantles.take i).filter (fun m=>!decide (m.Source=src))) rfl (fun i s K hi hI hK=>?_)
 have hl1:s.length≤60:=by rw [hI];exact Nat.le_trans (List.length_filter_le _ _) (by rw [List.length_take];omega)
 by_cases hin:i<w.Mantles.length
 · refine zcI (by simp [-List.getD_eq_getElem?_getD];omega) (zaq (by simp only;omega) ?_)
   simp only [Int.toNat_natCast]
   refine zfq (fun h=>zaq (by omega) (za9 (by rw [List.length_append];simp only [List.length_cons,List.length_nil];omega) (zai (by omega) (hK _ hin ?_)))) (fun h=>zai (by omega) (hK _ hin ?_))
   · rw [zbv hin,List.filter_append,hI,List.filter_cons_of_pos (p:=fun m:Mantle=>!decide (m.Source=src)) (by simp [-List.getD_eq_getElem?_getD,h]),List.filter_nil]
   · rw [zbv hin,List.filter_append,hI,List.filter_cons_of_neg (p:=fun m:Mantle=>!decide (m.Source=src)) (by simp [-List.getD_eq_getElem?_getD,h]),List.filter_nil,List.append_nil]
 have e1:i=w.Mantles.length:=by omega
 subst e1
 rw [List.take_length] at hI
 refine zbA (by simp [-List.getD_eq_getElem?_getD]) ?_
 refine zfz w.Burns.length (by omega) (fun i s=>s=(w.Burns.take i).filter (fun m=>!decide (m.Source=src))) rfl (fun i t K2 hi2 hI2 hK2=>?_)
 have hl2:t.length≤60:=by rw [hI2];exact Nat.le_trans (List.length_filter_le _ _) (by rw [List.length_take];omega)
 by_cases hin2:i<w.Burns.length
 · refine zcI (by simp [-List.getD_eq_getElem?_getD];omega) (zaq (by simp only;omega) ?_)
   simp only [Int.toNat_natCast]
   refine zfq (fun h=>zaq (by omega) (za9 (by rw [List.length_append];simp only [List.length_cons,List.length_nil];omega) (zai (by omega) (hK2 _ hin2 ?_)))) (fun h=>zai (by omega) (hK2 _ hin2 ?_))
   · rw [zbv hin2,List.filter_append,hI2,List.filter_cons_of_pos (p:=fun m:Burn=>!decide (m.Source=src)) (by simp [-List.getD_eq_getElem?_getD,h]),List.filter_nil]
   · rw [zbv hin2,List.filter_append,hI2,List.filter_cons_of_neg (p:=fun m:Burn=>!decide (m.Source=src)) (by simp [-List.getD_eq_getElem?_getD,h]),List.filter_nil,List.append_nil]
 have e2:i=w.Burns.length:=by omega
 subst e2
 rw [List.take_length] at hI2
 refine zbA (by simp [-List.getD_eq_getElem?_getD]) ?_
 refine zfz w.Looks.length (by omega) (fun i s=>s=(w.Looks.take i).filter (fun m=>!decide (m.Source=src))) rfl (fun i u K3 hi3 hI3 hK3=>?_)
 have hl3:u.length≤60:=by rw [hI3];exact Nat.le_trans (List.length_filter_le _ _) (by rw [List.length_take];omega)
 by_cases hin3:i<w.Looks.length
 · refine zcI (by simp [-List.getD_eq_getElem?_getD];omega) (zaq (by simp only;omega) ?_)
   simp only [Int.toNat_natCast]
   refine zfq (fun h=>zaq (by omega) (za9 (by rw [List.length_append];simp only [List.length_cons,List.length_nil];omega) (zai (by omega) (hK3 _ hin3 ?_)))) (fun h=>zai (by omega) (hK3 _ hin3 ?_))
   · rw [zbv hin3,List.filter_append,hI3,List.filter_cons_of_pos (p:=fun m:Look=>!decide (m.Source=src)) (by simp [-List.getD_eq_getElem?_getD,h]),List.filter_nil]
   · rw [zbv hin3,List.filter_append,hI3,List.filter_cons_of_neg (p:=fun m:Look=>!decide (m.Source=src)) (by simp [-List.getD_eq_getElem?_getD,h]),List.filter_nil,List.append_nil]
 have e3:i=w.Looks.length:=by omega
 subst e3
 rw [List.take_length] at hI3
 refine zbA (by simp [-List.getD_eq_getElem?_getD]) (zai (by simp only;omega) (zai (by simp only;omega) (zai (by omega) (zai (by omega) (zaA ?_)))))
 simp only [hI,hI2,hI3]
 refine Prod.ext (by simp [-List.getD_eq_getElem?_getD,zez]) ?_
 simp only
 rw [decide_eq_decide]
 unfold total zez
 simp only
 omega
end Go.Sp
end
/- Plain laws, mantle: Moved by both; MantleMoves. No program in sight. -/
section
set_option linter.all false
namespace Go.Sp
open Go.Av
set_option maxRecDepth 100000
theorem znR {w:Wear} (V:WearOk w) {fuel:Nat} (hf:1000≤fuel):Wp (zbX fuel w) (fun r=>r.Pairwise (· < ·)∧(∀ x,x∈r↔∃ j,j<w.Mantles.length∧(mt w j).Lamp=x)∧r.length≤60):=by
 have nm:=V.nm
 unfold zbX
 refine zfz w.Mantles.length (by omega) (fun i s=>s.Pairwise (· < ·)∧(∀ x,x∈s↔∃ j,j<i∧(mt w j).Lamp=x)∧s.length≤i) ⟨List.Pairwise.nil,fun x=>⟨fun h=>(by cases h),fun ⟨j,hj,_⟩=>absurd hj (Nat.not_lt_zero _)⟩,Nat.le_refl _⟩ (fun i s K hi hI hK=>?_)
 obtain ⟨h1,h2,h3⟩:=hI
 by_cases hin:i<w.Mantles.length
 · refine zcI (by simp [-List.getD_eq_getElem?_getD];omega) ?_
   simp only [Int.toNat_natCast]
   have ext:∀ {x:Int},(∃ j,j<i+1∧(mt w j).Lamp=x)↔(∃ j,j<i∧(mt w j).Lamp=x)∨x=(mt w i).Lamp:=fun {x}=>by
    constructor
    · rintro ⟨j,hj,e⟩
      by_cases ej:j=i
      · right;rw [← e,ej]
      · exact .inl ⟨j,by omega,e⟩
    · rintro (⟨j,hj,e⟩|e)
      · exact ⟨j,by omega,e⟩
      · exact ⟨i,by omega,e.symm⟩
   refine znE s.length (by omega) (fun k=>∀ j,j<k→s.getD j default<(mt w i).Lamp) (fun j hj=>absurd hj (Nat.not_lt_zero _)) (fun k K2 hk hI2 hK2=>?_)
   refine zaq (fun h=>by have:=of_decide_eq_true h;omega) (zaq (fun _=>by omega) ?_)
   simp only [Int.toNat_natCast]
   have em:w.Mantles.getD i default=mt w i:=rfl
   simp only [em]
   refine zcw (fun hb=>?_) (fun hb=>?_)
   · simp only [Bool.and_eq_true,decide_eq_true_eq] at hb
     refine zai (by omega) (hK2 (by omega) (fun j hj=>?_))
     by_cases ej:j=k
     · rw [ej];exact hb.2
     · exact hI2 j (by omega)
   simp only [Bool.and_eq_false_iff,decide_eq_false_iff_not] at hb
   have hge:∀ j,k≤j→j<s.length→(mt w i).Lamp≤s.getD j default:=fun j hkj hj=>by
    have h4:¬ s.getD k default<(mt w i).Lamp:=hb.resolve_left (by omega)
    by_cases ej:j=k
    · rw [ej];omega
    · have:=zp2 h1 (i:=k) (j:=j) (by omega) hj;omega
   refine zaq (fun h=>by simp [-List.getD_eq_getElem?_getD] at h;omega) (zaq (fun _=>by omega) ?_)
   refine zcw (fun hc=>?_) (fun hc=>?_)
   · simp only [Bool.or_eq_true,Bool.not_eq_true',decide_eq_true_eq,decide_eq_false_iff_not] at hc
     have hgt:∀ j,k≤j→j<s.length→(mt w i).Lamp<s.getD j default:=fun j hkj hj=>by
      have h4:=hge j hkj hj
      rcases hc with hc|hc
      · omega
      · by_cases ej:j=k
        · rw [ej] at h4 ⊢;omega
        · have:=zp2 h1 (i:=k) (j:=j) (by omega) hj
          have:=hge k (Nat.le_refl _) (by omega)
          omega
     refine zaq (by omega) (za9 (by simp [-List.getD_eq_getElem?_getD];omega) (zaq (by omega) (za9 (by simp [-List.getD_eq_getElem?_getD];omega) (zaq (by omega) (za9 (by simp [-List.getD_eq_getElem?_getD];omega) (zai (by omega) (hK _ hin ⟨?_,fun x=>?_,?_⟩)))))))
     · rw [List.nil_append,List.pairwise_append,List.pairwise_append]
       refine ⟨⟨h1.sublist (List.take_sublist _ _),List.pairwise_singleton _ _,fun a ha b hb2=>?_⟩,h1.sublist (List.drop_sublist _ _),fun a ha b hb2=>?_⟩
       · rw [List.mem_singleton] at hb2
         obtain ⟨q,hq,rfl⟩:=zb1 ha
         rw [List.length_take] at hq
         rw [hb2,getD_take,if_pos (by omega)]
         exact hI2 q (by omega)
       · obtain ⟨q,hq,rfl⟩:=zb1 hb2
         rw [List.length_drop] at hq
         rw [getD_drop]
         have h5:=hgt (k+q) (by omega) (by omega)
         rcases List.mem_append.1 ha with ha|ha
         · obtain ⟨q2,hq2,rfl⟩:=zb1 ha
           rw [List.length_take] at hq2
           rw [getD_take,if_pos (by omega)]
           have:=hI2 q2 (by omega)
           omega
         · rw [List.mem_singleton] at ha;rw [ha];exact h5
     · rw [ext,← h2]
       have:x∈s↔x∈s.take k∨x∈s.drop k:=by rw [← List.mem_append,List.take_append_drop]
       rw [this]
       simp only [List.nil_append,List.mem_append,List.mem_singleton]
       constructor
       · rintro ((h|h)|h)
         · exact .inl (.inl h)
         · exact .inr h
         · exact .inl (.inr h)
       · rintro ((h|h)|h)
         · exact .inl (.inl h)
         · exact .inr h
         · exact .inl (.inr h)
     · simp [-List.getD_eq_getElem?_getD];omega
   · simp only [Bool.or_eq_false_iff,Bool.not_eq_false',decide_eq_true_eq,decide_eq_false_iff_not] at hc
     refine zai (by omega) (hK _ hin ⟨h1,fun x=>?_,by omega⟩)
     rw [ext,← h2]
     refine ⟨fun h=>.inl h,fun h=>h.elim id (fun h=>?_)⟩
     rw [h,← hc.2]
     exact zbF (by omega)
 · have:i=w.Mantles.length:=by omega
   subst this
   exact zbA (by simp [-List.getD_eq_getElem?_getD]) (zaA ⟨h1,h2,by simp only;omega⟩)
def zqk (w:Wear) (src night known:Int) (lamp:Int):Prop:=stateV w lamp night known≠stateV (zez w src) lamp night known
structure MovedV (w:Wear) (src night known:Int) (r:List Int×Int):Prop where
 inv:¬ WearOk w→r=([],64)
 day:WearOk w→¬ (zaR night∧zaR known)→r=([],6)
 none:WearOk w→zaR night∧zaR known→¬ total (zez w src)<total w→r=([],3)
 ok:WearOk w→zaR night∧zaR known→total (zez w src)<total w→r.2=0∧r.1.Pairwise (· < ·)∧(∀ x,x∈r.1↔(∃ j,j<w.Mantles.length∧(mt w j).Lamp=x)∧zqk w src night known x)∧r.1.length≤60
theorem znY {a b:Int×Int}:((!decide (a.1=b.1)) || (!decide (a.2=b.2)))=true↔a≠b:=by
 simp only [Bool.or_eq_true,Bool.not_eq_true',decide_eq_false_iff_not]
 constructor
 · rintro (h|h) e
   · exact h (by rw [e])
   · exact h (by rw [e])
 · intro h
   by_cases h1:a.1=b.1
   · exact .inr (fun h2=>h (Prod.ext h1 h2))
   · exact .inl h1
theorem zn8 {w:Wear} (hw:Fits w) {fuel:Nat} (hf:1000≤fuel) (src night known:Int):Wp (zd1 fuel w src night known) (MovedV w src night known):=by
 unfold zd1
 by_cases V:¬ WearOk w
 · exact zaJ (znd hw V _) (zcI (by simp [-List.getD_eq_getElem?_getD]) (zaA ⟨fun _=>rfl,fun k=>absurd k V,fun k=>absurd k V,fun k=>absurd k V⟩))
 have V:=Classical.not_not.1 V
 have hiff:(∀ n∈([night,known]:List Int),zaR n)↔zaR night∧zaR known:=⟨fun h=>⟨h night (by simp [-List.getD_eq_getElem?_getD]),h known (by simp [-List.getD_eq_getElem?_getD])⟩,fun h n hn=>by
  simp only [List.mem_cons,List.not_mem_nil,or_false] at hn
  rcases hn with rfl|rfl
  · exact h.1
  · exact h.2⟩
 by_cases hn:¬ (zaR night∧zaR known)
 · exact zaJ (zjF V (fun k=>hn (hiff.1 k))) (zcI (by simp [-List.getD_eq_getElem?_getD]) (zaA ⟨fun k=>absurd V k,fun _ _=>rfl,fun _ k=>absurd k hn,fun _ k=>absurd k hn⟩))
 have hn:=Classical.not_not.1 hn
 have nm:=V.nm;have nu:=V.nu;have nl:=V.nl
 refine zaJ (zk3 V (hiff.2 hn)) (zbA (by simp [-List.getD_eq_getElem?_getD]) ?_)
 unfold zbe zby za3
 refine wp_bind (Q:=fun y=>y=w.Mantles) (za9 (by simp [-List.getD_eq_getElem?_getD];omega) (zaA (by simp [-List.getD_eq_getElem?_getD]))) (fun y hy=>?_)
 subst hy
 have d1:=zfi (T:=Mantle) (⟨0,0,0,0,0,0⟩:Mantle) (p:=fun x0=>some (zcD x0 src)) (q:=fun x=>decide (x.Source=src)) (fun x=>rfl) w.Mantles fuel (by omega) (by omega)
 refine zaJ (show zbK fuel w.Mantles _=_ from d1) ?_
 refine wp_bind (Q:=fun y=>y=w.Burns) (za9 (by simp [-List.getD_eq_getElem?_getD];omega) (zaA (by simp [-List.getD_eq_getElem?_getD]))) (fun y hy=>?_)
 subst hy
 have d2:=zfi (T:=Burn) (⟨0,0,0,(⟨0,0⟩:Range),0,0⟩:Burn) (p:=fun x0=>some (zcC x0 src)) (q:=fun x=>decide (x.Source=src)) (fun x=>rfl) w.Burns fuel (by omega) (by omega)
 refine zaJ (show zb0 fuel w.Burns _=_ from d2) ?_
 refine wp_bind (Q:=fun y=>y=w.Looks) (za9 (by simp [-List.getD_eq_getElem?_getD];omega) (zaA (by simp [-List.getD_eq_getElem?_getD]))) (fun y hy=>?_)
 subst hy
 have d3:=zfi (T:=Look) (⟨0,0,0,false,0,0⟩:Look) (p:=fun x0=>some (zcB x0 src)) (q:=fun x=>decide (x.Source=src)) (fun x=>rfl) w.Looks fuel (by omega) (by omega)
 refine zaJ (show zbw fuel w.Looks _=_ from d3) ?_
 have ht:=zoZ w src
 have l1:=List.length_filter_le (fun x:Mantle=>!decide (x.Source=src)) w.Mantles
 have l2:=List.length_filter_le (fun x:Burn=>!decide (x.Source=src)) w.Burns
 have l3:=List.length_filter_le (fun x:Look=>!decide (x.Source=src)) w.Looks
 refine zai (by omega) (zai (by omega) (zai (by omega) (zai (by omega) ?_)))
 have hiff2:((((w.Mantles.filter (fun x=>!decide (x.Source=src))).length:Int)+((w.Burns.filter (fun x=>!decide (x.Source=src))).length:Int))+((w.Looks.filter (fun x=>!decide (x.Source=src))).length:Int)=((w.Mantles.length:Int)+(w.Burns.length:Int))+(w.Looks.length:Int))↔¬ total (zez w src)<total w:=by
  unfold total zez at ht ⊢
  simp only at ht ⊢
  omega
 refine zb2 (fun h=>zaA ⟨fun k=>absurd V k,fun _ k=>absurd hn k,fun _ _ _=>rfl,fun _ _ k=>absurd k (hiff2.1 h)⟩) (fun h=>?_)
 have hs:total (zez w src)<total w:=Classical.byContradiction (fun k=>h (hiff2.2 k))
 refine zeg (fun i s=>(∀ x,x∈s↔(∃ j,j<i∧(mt w j).Lamp=x)∧zqk w src night known x)∧s.length≤i) ⟨fun x=>⟨fun h=>(by cases h),fun ⟨⟨j,hj,_⟩,_⟩=>absurd hj (Nat.not_lt_zero _)⟩,Nat.le_refl _⟩ (fun i s K hi hI hK=>?_) (fun s hs2=>?_)
 · obtain ⟨h2,h3⟩:=hI
   refine zaJ (zfP V hf _ _ _) (zaJ (zfP (w:=⟨w.Batches,_,_,_⟩) (zmK V src) hf _ _ _) ?_)
   have ext:∀ {x:Int},(∃ j,j<i+1∧(mt w j).Lamp=x)↔(∃ j,j<i∧(mt w j).Lamp=x)∨x=(mt w i).Lamp:=fun {x}=>by
    constructor
    · rintro ⟨j,hj,e⟩
      by_cases ej:j=i
      · right;rw [← e,ej]
      · exact .inl ⟨j,by omega,e⟩
    · rintro (⟨j,hj,e⟩|e)
      · exact ⟨j,by omega,e⟩
      · exact ⟨i,by omega,e.symm⟩
   refine wp_ifb (p:=zqk w src night known (mt w i).Lamp) (fun hb=>znY.1 hb) (fun hb k=>absurd ((znY.2 k).symm.trans hb) (by decide)) (fun hm=>za9 (by simp [-List.getD_eq_getElem?_getD];omega) (hK _ ⟨fun x=>?_,by simp [-List.getD_eq_getElem?_getD];omega⟩)) (fun hm=>hK _ ⟨fun x=>?_,by omega⟩)
   · rw [List.mem_append,List.mem_singleton,h2,ext]
     constructor
     · rintro (⟨a,b⟩|a)
       · exact ⟨.inl a,b⟩
       · exact ⟨.inr a,by rw [a];exact hm⟩
     · rintro ⟨a|a,b⟩
       · exact .inl ⟨a,b⟩
       · exact .inr a
   · rw [h2,ext]
     constructor
     · rintro ⟨a,b⟩;exact ⟨.inl a,b⟩
     · rintro ⟨a|a,b⟩
       · exact ⟨a,b⟩
       · rw [a] at b;exact absurd b hm
 · obtain ⟨h2,h3⟩:=hs2
   refine zaJ (ze9 (by omega) _:zbV s=_) (zaq (zdt _) (wp_bind (znu hf (by rw [zdt];omega) (zfR _)) (fun r hr=>zaA ⟨fun k=>absurd V k,fun _ k=>absurd hn k,fun _ _ k=>absurd hs k,fun _ _ _=>⟨rfl,hr.1,fun x=>?_,?_⟩⟩)))
   · rw [hr.2.1,(zgm s).mem_iff,h2]
   · have:=hr.2.2
     rw [zdt] at this
     simp only;omega
theorem MovedV.len {w:Wear} {src night known:Int} {r:List Int×Int} (h:MovedV w src night known r):r.1.length≤60:=by
 by_cases V:WearOk w
 · by_cases hn:zaR night∧zaR known
   · by_cases hs:total (zez w src)<total w
     · exact (h.ok V hn hs).2.2.2
     · rw [h.none V hn hs];simp [-List.getD_eq_getElem?_getD]
   · rw [h.day V hn];simp [-List.getD_eq_getElem?_getD]
 · rw [h.inv V];simp [-List.getD_eq_getElem?_getD]
end Go.Sp
end
/- Plain laws, mantle: the wears that numbers determine. No program in sight. -/
section
set_option linter.all false
namespace Go.Sp
open Go.Av
set_option maxRecDepth 100000
theorem zdf {n m:Int} (hm:0<m∧m≤1000000):Wp (zat n m) (fun r=>0≤r∧r<m):=by
 unfold zat
 have h1:=Int.tmod_lt_of_pos n hm.1
 have h2 : -m<Int.tmod n m:=by
  have:=Int.tmod_lt_of_pos (-n) hm.1
  rw [Int.neg_tmod] at this
  omega
 refine zaq (by omega) (zai (by omega) (zaq (by omega) (zaA ⟨Int.tmod_nonneg _ (by omega),Int.tmod_lt_of_pos _ hm.1⟩)))
theorem znT {l:List Int} {i:Int} (hi:0≤i):Wp (zbO l i) (fun _=>True):=by
 unfold zbO
 refine zb2 (fun _=>zaA trivial) (fun h=>?_)
 have h0:(0:Int)<(l.length:Int):=by omega
 exact zaq (by omega) (zaq ⟨Int.tmod_nonneg _ hi,Int.tmod_lt_of_pos _ h0⟩ (zaA trivial))
structure TrueT (w:Wear) (t:Lives):Prop where
 nl:t.Lives.length=w.Batches.length
 lives:∀ i,i<w.Batches.length→inR (ba w i).Life (t.Lives.getD i default)
 nm:t.Minutes.length=w.Burns.length
 mins:∀ i,i<w.Burns.length→(bn w i).Minutes.Lo≤t.Minutes.getD i default∧t.Minutes.getD i default≤(bn w i).Minutes.Hi
structure MadeV (w:Wear) (t:Lives):Prop where
 ok:WearOk w
 tr:TrueT w t
 looks:w.Looks.length≤6
 src:∀ l∈w.Looks,l.Source≤60
theorem zhg {T:Type} [Inhabited T] {ok:T→Prop} {num:T→Int} {l:List T} (h:zfp ok num l) {x:T} (hx:ok x) (hn:∀ y∈l,num y<num x):zfp ok num (l++[x]):=by
 intro i hi
 simp only [List.length_append,List.length_cons,List.length_nil] at hi
 rw [zcz,zcz]
 by_cases e:i=l.length
 · rw [if_pos e]
   refine ⟨hx,fun h0=>?_⟩
   rw [if_neg (by omega)]
   exact hn _ (zbF (by omega))
 · rw [if_neg e]
   refine ⟨(h i (by omega)).1,fun h0=>?_⟩
   rw [if_neg (by omega)]
   exact (h i (by omega)).2 h0
theorem zis {T:Type} [Inhabited T] {ok:T→Prop} {num:T→Int}:zfp ok num ([]:List T):=fun i hi=>absurd hi (Nat.not_lt_zero _)
theorem zp1 {fuel:Nat} (hf:1000≤fuel) (r:gasolierref06_Raw) (q:List Int):Wp (zcc fuel r q) (fun z=>MadeV z.1 z.2):=by
 unfold zcc
 refine zfz 2 (by omega) (fun i s=>s.1.length=i∧s.2.length=i∧zfp BatchOk (·.Id) s.1∧(∀ j,j<i→(s.1.getD j default).Id=(j:Int)+1)∧∀ j,j<i→inR (s.1.getD j default).Life (s.2.getD j default)) ⟨rfl,rfl,zis,fun j hj=>absurd hj (Nat.not_lt_zero _),fun j hj=>absurd hj (Nat.not_lt_zero _)⟩ (fun i s K hi hI hK=>?_)
 obtain ⟨bs,ls⟩:=s
 obtain ⟨b1,b2,b3,b4,b5⟩:=hI
 simp only at b1 b2 b3 b4 b5 ⊢
 refine zcw (fun hb=>?_) (fun hb=>?_)
 · have hi2:i<2:=by
    simp only [Bool.or_eq_true,Bool.and_eq_true,decide_eq_true_eq] at hb
    omega
   refine zgE (fun _=>True) (fun K2 hK2=>?_) (fun s3 _=>?_)
   · exact zb2 (fun h=>zaq (by omega) (hK2 _ trivial)) (fun h=>hK2 _ trivial)
   refine wp_bind (zdf (by omega)) (fun lo hlo=>zai (by omega) (wp_bind (zdf (by omega)) (fun d hd=>zai (by omega) ?_)))
   refine za9 (by simp [-List.getD_eq_getElem?_getD];omega) (wp_bind (znT (by omega)) (fun p _=>zai (by omega) (zai (by omega) (wp_bind (zdf (by omega)) (fun v hv=>zai (by omega) (za9 (by simp [-List.getD_eq_getElem?_getD];omega) (zai (by omega) (hK _ hi2 ?_))))))))
   refine ⟨by simp [-List.getD_eq_getElem?_getD,b1],by simp [-List.getD_eq_getElem?_getD,b2],zhg b3 ⟨by simp only;omega,by simp only;omega⟩ (fun y hy=>?_),fun j hj=>?_,fun j hj=>?_⟩
   · obtain ⟨j,hj,e⟩:=zb1 hy
     have:=b4 j (by omega)
     rw [e] at this
     simp only;omega
   · rw [zcz]
     by_cases e:j=bs.length
     · rw [if_pos e];simp only;omega
     · rw [if_neg e];exact b4 j (by omega)
   · rw [zcz,zcz]
     by_cases e:j=bs.length
     · rw [if_pos e,if_pos (by omega)];unfold inR;simp only;omega
     · rw [if_neg e,if_neg (by omega)];exact b5 j (by omega)
 have hi1:1≤i:=by
  simp only [Bool.or_eq_false_iff,decide_eq_false_iff_not] at hb
  omega
 refine zfz 7 (by omega) (fun j s=>s.length=j∧zfp MantleOk (·.Source) s∧(∀ k,k<j→(s.getD k default).Source=(k:Int)+1)∧∀ k,k<j→∃ q,q<bs.length∧(bs.getD q default).Id=(s.getD k default).Batch) ⟨rfl,zis,fun j hj=>absurd hj (Nat.not_lt_zero _),fun j hj=>absurd hj (Nat.not_lt_zero _)⟩ (fun j ms K2 hj hI2 hK2=>?_)
 obtain ⟨m1,m2,m3,m4⟩:=hI2
 refine zcw (fun hb=>?_) (fun _=>?_)
 · simp only [Bool.and_eq_true,decide_eq_true_eq] at hb
   refine zaq (by simp only;omega) (zai (by simp only;omega) (wp_bind (zdf (by omega)) (fun a ha=>zai (by omega) (wp_bind (zdf (by omega)) (fun b hb2=>zai (by omega) (wp_bind (zdf (by omega)) (fun c hc=>wp_bind (zdf (by omega)) (fun d hd=>?_))))))))
   refine za9 (by simp [-List.getD_eq_getElem?_getD];omega) (zai (by simp only;omega) (hK2 _ (by omega) ⟨by simp [-List.getD_eq_getElem?_getD,m1],zhg m2 ⟨⟨by simp only;omega,by simp only;omega,by simp only;omega,by simp only;omega,.inl rfl⟩,by simp only;omega⟩ (fun y hy=>?_),fun k hk=>?_,fun k hk=>?_⟩))
   · obtain ⟨k,hk,e⟩:=zb1 hy
     have:=m3 k (by omega)
     rw [e] at this
     simp only;omega
   · rw [zcz]
     by_cases e:k=ms.length
     · rw [if_pos e];simp only;omega
     · rw [if_neg e];exact m3 k (by omega)
   · rw [zcz]
     by_cases e:k=ms.length
     · rw [if_pos e]
       refine ⟨b.toNat,by omega,?_⟩
       have:=b4 b.toNat (by omega)
       simp only;omega
     · rw [if_neg e];exact m4 k (by omega)
 refine zfz 14 (by omega) (fun j s=>s.1.length=j∧s.2.length=j∧zfp BurnOk (·.Source) s.1∧(∀ k,k<j→(s.1.getD k default).Source=(k:Int)+20)∧∀ k,k<j→(s.1.getD k default).Minutes.Lo≤s.2.getD k default∧s.2.getD k default≤(s.1.getD k default).Minutes.Hi) ⟨rfl,rfl,zis,fun j hj=>absurd hj (Nat.not_lt_zero _),fun j hj=>absurd hj (Nat.not_lt_zero _)⟩ (fun j3 s K3 hj3 hI3 hK3=>?_)
 obtain ⟨us,ts⟩:=s
 obtain ⟨u1,u2,u3,u4,u5⟩:=hI3
 simp only at u1 u2 u3 u4 u5 ⊢
 refine zcw (fun hb=>?_) (fun _=>?_)
 · simp only [Bool.and_eq_true,decide_eq_true_eq] at hb
   refine zaq (by omega) (wp_bind (zdf (by omega)) (fun lo hlo=>zai (by omega) (wp_bind (zdf (by omega)) (fun a ha=>zai (by omega) (wp_bind (zdf (by omega)) (fun n hn=>wp_bind (zdf (by omega)) (fun d hd=>zai (by omega) (wp_bind (zdf (by omega)) (fun k hk=>?_)))))))))
   refine za9 (by simp [-List.getD_eq_getElem?_getD];omega) (zai (by omega) (wp_bind (znT (by omega)) (fun p _=>zai (by omega) (zai (by omega) (wp_bind (zdf (by omega)) (fun v hv=>zai (by omega) (za9 (by simp [-List.getD_eq_getElem?_getD];omega) (zai (by omega) (hK3 _ (by omega) ?_)))))))))
   refine ⟨by simp [-List.getD_eq_getElem?_getD,u1],by simp [-List.getD_eq_getElem?_getD,u2],zhg u3 ⟨⟨by simp only;omega,by simp only;omega,by simp only;omega,by simp only;omega,.inl rfl⟩,by simp only;omega⟩ (fun y hy=>?_),fun j hj=>?_,fun j hj=>?_⟩
   · obtain ⟨k2,hk2,e⟩:=zb1 hy
     have:=u4 k2 (by omega)
     rw [e] at this
     simp only;omega
   · rw [zcz]
     by_cases e:j=us.length
     · rw [if_pos e];simp only;omega
     · rw [if_neg e];exact u4 j (by omega)
   · rw [zcz,zcz]
     by_cases e:j=us.length
     · rw [if_pos e,if_pos (by omega)];simp only;omega
     · rw [if_neg e,if_neg (by omega)];exact u5 j (by omega)
 refine zfz 6 (by omega) (fun j s=>s.length=j∧zfp zlF (·.Source) s∧∀ k,k<j→(s.getD k default).Source=(k:Int)+50) ⟨rfl,zis,fun j hj=>absurd hj (Nat.not_lt_zero _)⟩ (fun j4 xs K4 hj4 hI4 hK4=>?_)
 obtain ⟨x1,x2,x3⟩:=hI4
 refine zcw (fun hb=>?_) (fun _=>zaA ?_)
 · simp only [Bool.and_eq_true,decide_eq_true_eq] at hb
   refine zaq (by simp only;omega) (zai (by simp only;omega) (wp_bind (zdf (by omega)) (fun a ha=>zai (by omega) (wp_bind (zdf (by omega)) (fun n hn=>wp_bind (zdf (by omega)) (fun d hd=>wp_bind (zdf (by omega)) (fun k hk=>?_)))))))
   refine za9 (by simp [-List.getD_eq_getElem?_getD];omega) (zai (by simp only;omega) (hK4 _ (by omega) ⟨by simp [-List.getD_eq_getElem?_getD,x1],zhg x2 ⟨by simp only;omega,by simp only;omega,by simp only;omega,by simp only;omega,.inl rfl⟩ (fun y hy=>?_),fun k hk=>?_⟩))
   · obtain ⟨k2,hk2,e⟩:=zb1 hy
     have:=x3 k2 (by omega)
     rw [e] at this
     simp only;omega
   · rw [zcz]
     by_cases e:k=xs.length
     · rw [if_pos e];simp only;omega
     · rw [if_neg e];exact x3 k (by omega)
 · refine ⟨⟨by simp only;omega,by simp only;omega,by simp only;omega,by simp only;omega,b3,m2,u3,x2,fun k hk=>m4 k (by simp only at hk;omega)⟩,⟨by simp only;omega,fun k hk=>b5 k (by simp only at hk;omega),by simp only;omega,fun k hk=>u5 k (by simp only at hk;omega)⟩,by simp only;omega,fun l hl=>?_⟩
   obtain ⟨k,hk,e⟩:=zb1 (l:=xs) hl
   have:=x3 k (by omega)
   rw [e] at this
   omega
end Go.Sp
end
/- Plain laws, mantle: looks that are right by lives and minutes. No program in sight. -/
section
set_option linter.all false
namespace Go.Sp
open Go.Av
set_option maxRecDepth 100000
end Go.Sp
end
/- Plain laws, mantle: from night to night; MantleNights. No program in sight. -/
section
set_option linter.all false
namespace Go.Sp
open Go.Av
set_option maxRecDepth 100000
theorem zkO {w:Wear} {known:Int} {S:Nat→List mantle_sight} {m:Nat} {night:Int}:(stateR w known S m night=0∧¬ zeP w known S m night true)∨(stateR w known S m night=1∧zeP w known S m night true∧¬ zeP w known S m night false)∨(stateR w known S m night=2∧zeP w known S m night true∧zeP w known S m night false):=by
 by_cases h1:zeP w known S m night true
 · by_cases h2:zeP w known S m night false
   · exact .inr (.inr ⟨zmr h1 h2,h1,h2⟩)
   · exact .inr (.inl ⟨zms h1 h2,h1,h2⟩)
 · exact .inl ⟨zmt h1,h1⟩
end Go.Sp
end
/- Plain laws, mantle: what becomes known later does not matter. No program in sight. -/
section
set_option linter.all false
namespace Go.Sp
open Go.Av
set_option maxRecDepth 100000
def kIdx {T:Type} [Inhabited T] (p:T→Bool) (l:List T):List Nat:=(List.range l.length).filter (fun i=>p (l.getD i default))
def kAt {T:Type} [Inhabited T] (p:T→Bool) (l:List T) (j:Nat):Nat:=(kIdx p l).getD j default
theorem zmN {T:Type} [Inhabited T] (p:T→Bool) (l:List T):l.filter p=(kIdx p l).map (fun i=>l.getD i default):=by
 have e:l=(List.range l.length).map (fun i=>l.getD i default):=zmW (by simp [-List.getD_eq_getElem?_getD]) (fun i hi=>by
  rw [List.getD_eq_getElem?_getD (l:=List.map _ _),List.getElem?_map,List.getElem?_range hi];rfl)
 have e2:((List.range l.length).map (fun i=>l.getD i default)).filter p=((List.range l.length).filter (fun i=>p (l.getD i default))).map (fun i=>l.getD i default):=by
  rw [List.filter_map];rfl
 rw [← e] at e2
 exact e2
theorem zhd {T:Type} [Inhabited T] (p:T→Bool) (l:List T):(kIdx p l).length=(l.filter p).length:=by rw [zmN,List.length_map]
theorem zpj {T:Type} [Inhabited T] (p:T→Bool) (l:List T):(kIdx p l).Pairwise (· < ·):=List.Pairwise.sublist List.filter_sublist List.pairwise_lt_range
theorem zoh {T:Type} [Inhabited T] {p:T→Bool} {l:List T} {j:Nat} (hj:j<(l.filter p).length):(l.filter p).getD j default=l.getD (kAt p l j) default:=by
 have hj':j<(kIdx p l).length:=by rw [zhd];exact hj
 unfold kAt
 rw [zmN,List.getD_eq_getElem?_getD,List.getElem?_map,List.getElem?_eq_getElem hj',List.getD_eq_getElem?_getD (l:=kIdx p l),List.getElem?_eq_getElem hj'];rfl
theorem zlb {T:Type} [Inhabited T] {p:T→Bool} {l:List T} {j:Nat} (hj:j<(l.filter p).length):kAt p l j<l.length:=by
 have:kAt p l j∈kIdx p l:=zbF (by rw [zhd];exact hj)
 exact List.mem_range.1 (List.mem_filter.1 this).1
theorem ziU {T:Type} [Inhabited T] {p:T→Bool} {l:List T} {i j:Nat} (hij:i<j) (hj:j<(l.filter p).length):kAt p l i<kAt p l j:=by
 have hj':j<(kIdx p l).length:=by rw [zhd];exact hj
 have:=List.pairwise_iff_getElem.1 (zpj p l) i j (by omega) hj' hij
 unfold kAt
 rw [List.getD_eq_getElem?_getD,List.getD_eq_getElem?_getD,List.getElem?_eq_getElem hj',List.getElem?_eq_getElem (by omega)]
 exact this
theorem zp5 {T:Type} [Inhabited T] {p:T→Bool} {l:List T} {i j:Nat} (hi:i<(l.filter p).length) (hj:j<(l.filter p).length) (e:kAt p l i=kAt p l j):i=j:=by
 rcases Nat.lt_trichotomy i j with h|h|h
 · have:=ziU (p:=p) (l:=l) h hj;omega
 · exact h
 · have:=ziU (p:=p) (l:=l) h hi;omega
theorem zkc {T:Type} [Inhabited T] {p:T→Bool} {l:List T} {i:Nat} (hi:i<l.length) (h:p (l.getD i default)=true):∃ j,j<(l.filter p).length∧kAt p l j=i:=by
 have:i∈kIdx p l:=List.mem_filter.2 ⟨List.mem_range.2 hi,h⟩
 obtain ⟨j,hj,e⟩:=zb1 this
 exact ⟨j,by rw [zhd] at hj;exact hj,e⟩
def nsum (P:Nat→Bool) (f:Nat→Int):List Nat→Int
 | []=>0
 | x::l=>(if P x=true then f x else 0)+nsum P f l
theorem zk1 {P:Nat→Bool} {f:Nat→Int} (l:List Nat) (x:Nat):nsum P f (l++[x])=nsum P f l+(if P x=true then f x else 0):=by
 induction l with
 | nil=>simp [-List.getD_eq_getElem?_getD,nsum]
 | cons y l ih=>rw [List.cons_append];unfold nsum;rw [ih];omega
theorem zk0 {P:Nat→Bool} {f:Nat→Int} {l:List Nat}:∀ {k:Nat},k≤l.length→zbP (fun j=>P (l.getD j default)) (fun j=>f (l.getD j default)) k=nsum P f (l.take k)
 | 0,_=>rfl
 | k+1,h=>by
  rw [zbv (by omega),zk1,← zk0 (by omega)];rfl
theorem zjE {P q:Nat→Bool} {f:Nat→Int}:∀ {n:Nat},nsum P f ((List.range n).filter q)=zbP (fun i=>q i && P i) f n
 | 0=>rfl
 | n+1=>by
  rw [List.range_succ,List.filter_append]
  unfold zbP
  rw [← zjE]
  cases hq:q n with
  | true=>
   have:List.filter q [n]=[n]:=by simp [-List.getD_eq_getElem?_getD,hq]
   rw [this,zk1];simp [-List.getD_eq_getElem?_getD]
  | false=>
   have:List.filter q [n]=[]:=by simp [-List.getD_eq_getElem?_getD,hq]
   rw [this,List.append_nil];simp [-List.getD_eq_getElem?_getD]
theorem zmp {T:Type} [Inhabited T] {p:T→Bool} {l:List T} {P P':Nat→Bool} {f f':Nat→Int} (h1:∀ j,j<(l.filter p).length→P' j=P (kAt p l j)) (h2:∀ j,j<(l.filter p).length→f' j=f (kAt p l j)) (h3:∀ i,i<l.length→P i=true→p (l.getD i default)=true):zbP P' f' (l.filter p).length=zbP P f l.length:=by
 have e1:zbP P' f' (l.filter p).length=zbP (fun j=>P ((kIdx p l).getD j default)) (fun j=>f ((kIdx p l).getD j default)) (l.filter p).length:=by
  have go:∀ n,n≤(l.filter p).length→zbP P' f' n=zbP (fun j=>P ((kIdx p l).getD j default)) (fun j=>f ((kIdx p l).getD j default)) n:=by
   intro n
   induction n with
   | zero=>intro _;rfl
   | succ n ih=>
    intro hn
    show zbP P' f' n+(if P' n=true then f' n else 0)=_+(if P ((kIdx p l).getD n default)=true then f ((kIdx p l).getD n default) else 0)
    rw [ih (by omega),h1 n (by omega),h2 n (by omega)];rfl
  exact go _ (Nat.le_refl _)
 rw [e1,← zhd,zk0 (Nat.le_refl _),List.take_length]
 unfold kIdx
 rw [zjE]
 refine zhU (fun i hi=>?_)
 have:=h3 i hi
 cases hP:P i with
 | true=>rw [this hP];rfl
 | false=>simp [-List.getD_eq_getElem?_getD]
def kM (known:Int) (m:Mantle):Bool:=decide (m.Known≤known)
def kB (known:Int) (b:Burn):Bool:=decide (b.Known≤known)
def kL (known:Int) (l:Look):Bool:=decide (l.Known≤known)
def nowW (w:Wear) (known:Int):Wear:=⟨w.Batches,w.Mantles.filter (kM known),w.Burns.filter (kB known),w.Looks.filter (kL known)⟩
abbrev pM (w:Wear) (known:Int) (j:Nat):Nat:=kAt (kM known) w.Mantles j
abbrev pB (w:Wear) (known:Int) (j:Nat):Nat:=kAt (kB known) w.Burns j
theorem zeW {a u known:Int} (h:zax a u known=true):a≤known:=by
 unfold zax at h
 rw [Bool.and_eq_true,decide_eq_true_eq] at h
 exact h.1
theorem zmF {w:Wear} {known:Int} {j:Nat} (hj:j<(nowW w known).Mantles.length):mt (nowW w known) j=mt w (pM w known j):=zoh (p:=kM known) hj
theorem zh3 {w:Wear} {known:Int} {j:Nat} (hj:j<(nowW w known).Burns.length):bn (nowW w known) j=bn w (pB w known j):=zoh (p:=kB known) hj
theorem znW {w:Wear} (V:WearOk w) (known:Int):WearOk (nowW w known):=by
 refine ⟨V.nb,Nat.le_trans (List.length_filter_le _ _) V.nm,Nat.le_trans (List.length_filter_le _ _) V.nu,Nat.le_trans (List.length_filter_le _ _) V.nl,V.ba,zdO V.ma _,zdO V.bu _,zdO V.lo _,fun i hi=>?_⟩
 have:=(List.mem_filter.1 (zbF hi)).1
 obtain ⟨j,hj,e⟩:=zb1 this
 obtain ⟨q,hq,eq⟩:=V.has j hj
 exact ⟨q,hq,eq.trans (congrArg Mantle.Batch e)⟩
theorem zkF {w:Wear} {lamp night known:Int} {j:Nat} (hj:j<(nowW w known).Mantles.length):Cand (nowW w known) lamp night known j↔Cand w lamp night known (pM w known j):=by
 unfold Cand
 rw [zmF hj]
theorem zoq {w:Wear} {lamp night known:Int} {j:Nat} (h:FitIs (nowW w known) lamp night known (nowW w known).Mantles.length j):FitIs w lamp night known w.Mantles.length (pM w known j):=by
 have hj:=h.lt
 refine ⟨zlb hj,(zkF hj).1 h.cand,fun i hi hc=>?_⟩
 obtain ⟨j',hj',e⟩:=zkc (p:=kM known) hi (decide_eq_true (zeW hc.2.2))
 subst e
 have h1:=h.top j' hj' ((zkF hj').2 hc)
 rw [zmF hj,zmF hj'] at h1
 refine ⟨h1.1,fun hlt=>h1.2 ?_⟩
 rcases Nat.lt_trichotomy j j' with h2|h2|h2
 · exact h2
 · subst h2;exact absurd hlt (Nat.lt_irrefl _)
 · have:=ziU (p:=kM known) (l:=w.Mantles) h2 hj
   simp only [pM] at hlt
   omega
theorem zl4 {w:Wear} {lamp night known:Int}:(fit (nowW w known) lamp night known = -1∧fit w lamp night known = -1)∨∃ j:Nat,j<(nowW w known).Mantles.length∧fit (nowW w known) lamp night known=(j:Int)∧fit w lamp night known=((pM w known j:Nat):Int):=by
 rcases zhf (nowW w known) lamp night known with ⟨e,h⟩|⟨j,e,h⟩
 · refine .inl ⟨e,?_⟩
   rcases zhf w lamp night known with ⟨e2,_⟩|⟨i,e2,h2⟩
   · exact e2
   · obtain ⟨j',hj',e3⟩:=zkc (p:=kM known) h2.lt (decide_eq_true (zeW h2.cand.2.2))
     subst e3
     exact absurd ((zkF hj').2 h2.cand) (h j' hj')
 · exact .inr ⟨j,h.lt,e,(zoq h).fit⟩
theorem zi3 {w:Wear} {lamp night known:Int} {m:Nat} (hm:m<(nowW w known).Mantles.length):fit (nowW w known) lamp night known=(m:Int)↔fit w lamp night known=((pM w known m:Nat):Int):=by
 rcases zl4 (w:=w) (lamp:=lamp) (night:=night) (known:=known) with ⟨e1,e2⟩|⟨j,hj,e1,e2⟩
 · rw [e1,e2];omega
 · rw [e1,e2]
   refine ⟨fun h=>by rw [show j=m by omega],fun h=>?_⟩
   have:=zp5 (p:=kM known) (l:=w.Mantles) hj hm (by simp only [pM] at h;omega)
   omega
theorem zi2 {w:Wear} {lamp night known:Int}:fit (nowW w known) lamp night known<0↔fit w lamp night known<0:=by
 rcases zl4 (w:=w) (lamp:=lamp) (night:=night) (known:=known) with ⟨e1,e2⟩|⟨j,hj,e1,e2⟩
 · rw [e1,e2]
 · rw [e1,e2];omega
theorem zo0 {w:Wear} {known:Int} {j:Nat} (hj:j<(nowW w known).Burns.length):tell (nowW w known) known j=tell w known (pB w known j):=by
 rw [Bool.eq_iff_iff,zik,zik,zh3 hj]
 have h1:0≤fit (nowW w known) (bn w (pB w known j)).Lamp (bn w (pB w known j)).Night known↔0≤fit w (bn w (pB w known j)).Lamp (bn w (pB w known j)).Night known:=by
  have:=zi2 (w:=w) (lamp:=(bn w (pB w known j)).Lamp) (night:=(bn w (pB w known j)).Night) (known:=known)
  omega
 rw [h1]
 refine and_congr_right (fun _=>and_congr_right (fun _=>?_))
 constructor
 · intro h k hk hlt hl
   obtain ⟨k',hk',e⟩:=zkc (p:=kB known) hk (decide_eq_true (zeW hl.2.2))
   subst e
   refine h k' hk' ?_ ?_
   · rcases Nat.lt_trichotomy j k' with h2|h2|h2
     · exact h2
     · subst h2;simp only [pB] at hlt;omega
     · have:=ziU (p:=kB known) (l:=w.Burns) h2 hj;simp only [pB] at hlt;omega
   · unfold zk8 at hl ⊢
     rw [zh3 hk',zh3 hj]
     exact hl
 · intro h k hk hlt hl
   refine h (pB w known k) (zlb hk) (ziU hlt hk) ?_
   unfold zk8 at hl ⊢
   rw [zh3 hk,zh3 hj] at hl
   exact hl
theorem zlf {w:Wear} {known f t:Int} {m j:Nat} (hm:m<(nowW w known).Mantles.length) (hj:j<(nowW w known).Burns.length):zjo (nowW w known) known m f t j=zjo w known (pM w known m:Nat) f t (pB w known j):=by
 unfold zjo
 rw [zo0 hj,zh3 hj]
 congr 2
 rw [decide_eq_decide]
 exact zi3 hm
theorem zjJ {w:Wear} {known m f t:Int} {i:Nat} (h:zjo w known m f t i=true):kB known (bn w i)=true:=by
 simp only [zjo,Bool.and_eq_true] at h
 exact decide_eq_true (zeW (zik.1 h.1.1).2.1)
theorem zlC {w:Wear} {known f t:Int} {m:Nat} (hm:m<(nowW w known).Mantles.length):zjj (nowW w known) known m f t=zjj w known (pM w known m:Nat) f t:=
 zmp (p:=kB known) (fun j hj=>zlf hm hj) (fun j hj=>congrArg (fun b:Burn=>b.Minutes.Lo) (zh3 hj)) (fun i _ h=>zjJ h)
theorem zhq {w:Wear} {known f t:Int} {m:Nat} (hm:m<(nowW w known).Mantles.length):zfy (nowW w known) known m f t=zfy w known (pM w known m:Nat) f t:=
 zmp (p:=kB known) (fun j hj=>zlf hm hj) (fun j hj=>congrArg (fun b:Burn=>b.Minutes.Hi) (zh3 hj)) (fun i _ h=>zjJ h)
theorem zin {w:Wear} {known:Int} {m:Nat} (hm:m<(nowW w known).Mantles.length) {S:List mantle_sight} {x:Int}:OkBy (nowW w known) known m S x↔OkBy w known (pM w known m:Nat) S x:=by
 constructor
 · rintro ⟨h1,h2,h3,h4⟩
   exact ⟨h1,fun s hs hb=>zlC hm▸h2 s hs hb,fun s hs hb=>zhq hm▸h3 s hs hb,fun s hs t ht hb hc=>zhq hm▸h4 s hs t ht hb hc⟩
 · rintro ⟨h1,h2,h3,h4⟩
   exact ⟨h1,fun s hs hb=>(zlC hm).symm▸h2 s hs hb,fun s hs hb=>(zhq hm).symm▸h3 s hs hb,fun s hs t ht hb hc=>(zhq hm).symm▸h4 s hs t ht hb hc⟩
theorem zit {w:Wear} {known:Int} {m:Nat} (hm:m<(nowW w known).Mantles.length):allS (nowW w known) known m=allS w known (pM w known m):=by
 unfold allS
 rw [zg4,zg4]
 show ((w.Looks.filter (kL known)).filter (zkS (nowW w known) known m)).map toS=_
 rw [List.filter_filter]
 congr 1
 refine List.filter_congr (fun l _=>?_)
 unfold zkS
 rw [Bool.eq_iff_iff]
 simp only [Bool.and_eq_true,decide_eq_true_eq,zi3 hm]
 exact ⟨fun h=>h.1,fun h=>⟨h,decide_eq_true (zeW h.2)⟩⟩
theorem zmk {w:Wear} {known:Int} {m:Nat} (hm:m<(nowW w known).Mantles.length):bat (nowW w known) m=bat w (pM w known m):=by
 unfold bat
 rw [zmF hm];rfl
theorem zhc {w:Wear} (V:WearOk w) {known:Int} {q:Nat} (hq:q<w.Batches.length) {x:Int}:zhs (nowW w known) known (allS (nowW w known) known) q x↔zhs w known (allS w known) q x:=by
 constructor
 · rintro ⟨h1,h2⟩
   refine ⟨h1,fun i hi hb=>?_⟩
   by_cases hk:kM known (mt w i)=true
   · obtain ⟨j,hj,e⟩:=zkc (p:=kM known) hi hk
     subst e
     have:=(zin hj).1 (h2 j hj ((zmk hj).trans hb))
     rwa [zit hj] at this
   · have:allS w known i=[]:=by
      rw [List.eq_nil_iff_forall_not_mem]
      intro s hs
      obtain ⟨lamp,hfi⟩:=zm6 hs
      exact hk (decide_eq_true (zeW hfi.cand.2.2))
     rw [this]
     exact zpg (zp3 V hq h1)
 · rintro ⟨h1,h2⟩
   refine ⟨h1,fun j hj hb=>(zin hj).2 ?_⟩
   rw [zit hj]
   exact h2 _ (zlb hj) ((zmk hj).symm.trans hb)
theorem zkP {w:Wear} (V:WearOk w) {known:Int}:zc0 (nowW w known) known (allS (nowW w known) known)↔zc0 w known (allS w known):=
 ⟨fun h b hb=>by obtain ⟨x,hx⟩:=h b hb;exact ⟨x,(zhc V hb).1 hx⟩,fun h b hb=>by obtain ⟨x,hx⟩:=h b hb;exact ⟨x,(zhc V hb).2 hx⟩⟩
theorem zoM {w:Wear} (V:WearOk w) {known:Int} {m:Nat} (hm:m<(nowW w known).Mantles.length) {night:Int} {bad:Bool}:zeP (nowW w known) known (allS (nowW w known) known) m night bad↔zeP w known (allS w known) (pM w known m) night bad:=by
 have hb:0≤bat w (pM w known m)∧bat w (pM w known m)<(w.Batches.length:Int):=zm2 V (zlb hm)
 have hb2:0≤bat w (kAt (kM known) w.Mantles m)∧bat w (kAt (kM known) w.Mantles m)<(w.Batches.length:Int):=hb
 rw [zlw (znW V known) hm,zlw V (zlb hm),zmk hm]
 constructor
 · rintro ⟨x,h1,h2⟩
   refine ⟨x,(zhc V (by omega)).1 h1,?_⟩
   rw [← zit hm];exact (zin hm).1 h2
 · rintro ⟨x,h1,h2⟩
   refine ⟨x,(zhc V (by omega)).2 h1,?_⟩
   rw [zit hm];exact (zin hm).2 h2
theorem zm5 {w:Wear} (V:WearOk w) (lamp night known:Int):stateV (nowW w known) lamp night known=stateV w lamp night known:=by
 have hn:=zi2 (w:=w) (lamp:=lamp) (night:=night) (known:=known)
 have he:zb3 (nowW w known) lamp night known=zb3 w lamp night known:=by
  unfold zb3
  by_cases h:fit w lamp night known<0
  · rw [if_pos h,if_pos (hn.2 h)]
  · rw [if_neg h,if_neg (fun k=>h (hn.1 k))]
 by_cases h0:zb3 w lamp night known=0
 · by_cases hs:zc0 w known (allS w known)
   · rw [ziD h0 hs,ziD (he.trans h0) ((zkP V).2 hs)]
     rcases zl4 (w:=w) (lamp:=lamp) (night:=night) (known:=known) with ⟨e1,e2⟩|⟨j,hj,e1,e2⟩
     · have:=(zhZ h0).2.2.2;omega
     · rw [e1,e2,Int.toNat_natCast,Int.toNat_natCast]
       have a:=zoM V hj (night:=night) (bad:=true)
       have b:=zoM V hj (night:=night) (bad:=false)
       rcases zkO (w:=w) (known:=known) (S:=allS w known) (m:=pM w known j) (night:=night) with ⟨s,k1⟩|⟨s,k1,k2⟩|⟨s,k1,k2⟩
       · rw [s,zmt (fun k=>k1 (a.1 k))]
       · rw [s,zms (a.2 k1) (fun k=>k2 (b.1 k))]
       · rw [s,zmr (a.2 k1) (b.2 k2)]
   · rw [zfF h0 hs,zfF (he.trans h0) (fun k=>hs ((zkP V).1 k))]
 · rw [zht h0,zht (fun k=>h0 (he.symm.trans k)),he]
end Go.Sp
end
/- Plain laws, mantle: MantleKnown. No program in sight. -/
section
set_option linter.all false
namespace Go.Sp
open Go.Av
set_option maxRecDepth 100000
theorem has_wp {fuel:Nat} {l:List Int} (hl:l.length≤60) (hf:1000≤fuel) (x:Int):Wp (zco fuel l x) (fun b=>b=true↔x∈l):=by
 unfold zco
 refine znD (n:=l.length) (by omega) (fun i=>l.getD i default≠x) (fun i K hi _ hK=>?_) (fun h K=>zbA (by simp [-List.getD_eq_getElem?_getD]) (zaA ⟨fun h=>(by cases h),fun hx=>?_⟩))
 · refine zcI (by simp [-List.getD_eq_getElem?_getD];omega) (zaq (by omega) ?_)
   simp only [Int.toNat_natCast]
   exact zb2 (fun h=>zaA ⟨fun _=>h▸zbF hi,fun _=>rfl⟩) (fun h=>zai (by omega) (hK h))
 · obtain ⟨i,hi,e⟩:=zb1 hx
   exact absurd e (h i hi)
theorem zqb {a b:Int×Int}:((decide (a.1=b.1)) && (decide (a.2=b.2)))=true↔a=b:=by
 rw [Bool.and_eq_true,decide_eq_true_eq,decide_eq_true_eq]
 exact ⟨fun h=>Prod.ext h.1 h.2,fun h=>⟨by rw [h],by rw [h]⟩⟩
theorem zih (r:gasolierref06_Raw) (n:Arr3 Int) (hx:inI n.x2):zaZ 1000 r n=some true:=by
 unfold zaZ
 refine Wp.eq (zaJ znI (wp_bind (zdf (by omega)) (fun night hnt=>wp_bind (zdf (by omega)) (fun known hk=>wp_bind (zp1 (by omega) r []) (fun z hz=>?_)))))
 obtain ⟨w,t⟩:=z
 simp only at hz ⊢
 have V:=hz.ok
 have nb:=V.nb;have nm:=V.nm;have nu:=V.nu;have nl:=V.nl
 have hkn:zaR known:=⟨by omega,by omega⟩
 have hni:zaR night:=⟨by omega,by omega⟩
 refine za9 (by simp [-List.getD_eq_getElem?_getD];omega) ?_
 refine zfz w.Mantles.length (by omega) (fun i s=>s=(w.Mantles.take i).filter (kM known)) rfl (fun i s K hi hI hK=>?_)
 have hl1:s.length≤60:=by rw [hI];exact Nat.le_trans (List.length_filter_le _ _) (by rw [List.length_take];omega)
 by_cases hin:i<w.Mantles.length
 · refine zcI (by simp [-List.getD_eq_getElem?_getD];omega) (zaq (by simp only;omega) ?_)
   simp only [Int.toNat_natCast]
   refine zb2 (fun h=>zaq (by omega) (za9 (by rw [List.length_append];simp only [List.length_cons,List.length_nil];omega) (zai (by omega) (hK _ hin ?_)))) (fun h=>zai (by omega) (hK _ hin ?_))
   · rw [zbv hin,List.filter_append,hI,List.filter_cons_of_pos (p:=kM known) (decide_eq_true h),List.filter_nil]
   · rw [zbv hin,List.filter_append,hI,List.filter_cons_of_neg (p:=kM known) (by unfold kM;rw [decide_eq_true_eq];exact h),List.filter_nil,List.append_nil]
 have e1:i=w.Mantles.length:=by omega
 subst e1
 rw [List.take_length] at hI
 refine zbA (by simp [-List.getD_eq_getElem?_getD]) ?_
 refine zfz w.Burns.length (by omega) (fun i s=>s=(w.Burns.take i).filter (kB known)) rfl (fun i u K2 hi2 hI2 hK2=>?_)
 have hl2:u.length≤60:=by rw [hI2];exact Nat.le_trans (List.length_filter_le _ _) (by rw [List.length_take];omega)
 by_cases hin2:i<w.Burns.length
 · refine zcI (by simp [-List.getD_eq_getElem?_getD];omega) (zaq (by simp only;omega) ?_)
   simp only [Int.toNat_natCast]
   refine zb2 (fun h=>zaq (by omega) (za9 (by rw [List.length_append];simp only [List.length_cons,List.length_nil];omega) (zai (by omega) (hK2 _ hin2 ?_)))) (fun h=>zai (by omega) (hK2 _ hin2 ?_))
   · rw [zbv hin2,List.filter_append,hI2,List.filter_cons_of_pos (p:=kB known) (decide_eq_true h),List.filter_nil]
   · rw [zbv hin2,List.filter_append,hI2,List.filter_cons_of_neg (p:=kB known) (by unfold kB;rw [decide_eq_true_eq];exact h),List.filter_nil,List.append_nil]
 have e2:i=w.Burns.length:=by omega
 subst e2
 rw [List.take_length] at hI2
 refine zbA (by simp [-List.getD_eq_getElem?_getD]) ?_
 refine zfz w.Looks.length (by omega) (fun i s=>s=(w.Looks.take i).filter (kL known)) rfl (fun i v K3 hi3 hI3 hK3=>?_)
 have hl3:v.length≤60:=by rw [hI3];exact Nat.le_trans (List.length_filter_le _ _) (by rw [List.length_take];omega)
 by_cases hin3:i<w.Looks.length
 · refine zcI (by simp [-List.getD_eq_getElem?_getD];omega) (zaq (by simp only;omega) ?_)
   simp only [Int.toNat_natCast]
   refine zb2 (fun h=>zaq (by omega) (za9 (by rw [List.length_append];simp only [List.length_cons,List.length_nil];omega) (zai (by omega) (hK3 _ hin3 ?_)))) (fun h=>zai (by omega) (hK3 _ hin3 ?_))
   · rw [zbv hin3,List.filter_append,hI3,List.filter_cons_of_pos (p:=kL known) (decide_eq_true h),List.filter_nil]
   · rw [zbv hin3,List.filter_append,hI3,List.filter_cons_of_neg (p:=kL known) (by unfold kL;rw [decide_eq_true_eq];exact h),List.filter_nil,List.append_nil]
 have e3:i=w.Looks.length:=by omega
 subst e3
 rw [List.take_length] at hI3
 have hnow:(⟨([]:List Batch)++w.Batches,s,u,v⟩:Wear)=nowW w known:=by rw [hI,hI2,hI3];rfl
 refine zbA (by simp [-List.getD_eq_getElem?_getD]) (wp_bind (zdf (by omega)) (fun c hc=>?_))
 have htd:inI (Int.tdiv n.x2 3):=by
  unfold inI at hx ⊢
  rcases Int.le_total 0 n.x2 with h|h
  · have a:=Int.tdiv_eq_ediv_of_nonneg (b:=3) h
    rw [a];omega
  · have a:Int.tdiv n.x2 3 = -((-n.x2) / 3):=by
     rw [← Int.tdiv_eq_ediv_of_nonneg (a:=-n.x2) (b:=3) (by omega),Int.neg_tdiv,Int.neg_neg]
    rw [a];omega
 refine zaq (by omega) (zaq ⟨by decide,htd⟩ (wp_bind (zdf (by omega)) (fun d hd=>?_)))
 have hb3:0≤([1,20,50]:List Int).getD c.toNat 0∧([1,20,50]:List Int).getD c.toNat 0≤50:=by
  have:c.toNat=0∨c.toNat=1∨c.toNat=2:=by omega
  rcases this with e|e|e <;> rw [e] <;> decide
 refine zai (by omega) ?_
 generalize ([1,20,50]:List Int).getD c.toNat 0+d=src
 refine zaJ (zlQ V (by omega) src) ?_
 obtain ⟨mv,m1,m2⟩:=zn8 V.fits (fuel:=1000) (by omega) src night known
 refine zaJ m1 ?_
 simp only
 have hml:=m2.len
 have hcond:(((!true) || (!((decide (total (zez w src)<total w)) == (decide (mv.2=0))))) || ((!(decide (total (zez w src)<total w))) && (!decide (mv.2=3))))=false:=by
  by_cases hs:total (zez w src)<total w
  · have:=(m2.ok V ⟨hni,hkn⟩ hs).1
    simp [-List.getD_eq_getElem?_getD,hs,this]
  · have:=m2.none V ⟨hni,hkn⟩ hs
    rw [this];simp [-List.getD_eq_getElem?_getD,hs]
 refine zbA hcond (wp_bind (znR V (by omega)) (fun y hy=>?_))
 obtain ⟨y1,y2,y3⟩:=hy
 refine znD (n:=y.length) (by omega) (fun _=>True) (fun i K4 hi4 _ hK4=>?_) (fun _ K4=>zbA (by simp [-List.getD_eq_getElem?_getD]) (zaA rfl))
 refine zcI (by simp [-List.getD_eq_getElem?_getD];omega) (zaq (by omega) ?_)
 simp only [Int.toNat_natCast]
 rw [hnow]
 refine zaJ (zfP V (by omega) _ _ _) (zaq (by omega) (zaJ (zfP (znW V known) (by omega) _ _ _) (zaq (by omega) (zaJ (zfP (zmK V src) (by omega) _ _ _) (zaq (fun _=>by omega) ?_)))))
 rw [zm5 V]
 refine zkM (Q:=fun b=>b=true↔y.getD i default∈mv.1) (fun _=>has_wp hml (by omega) _) (fun b hb=>?_)
 refine zbA ?_ (zai (by omega) (hK4 trivial))
 rw [Bool.or_eq_false_iff]
 refine ⟨by simp [-List.getD_eq_getElem?_getD],?_⟩
 by_cases hs:total (zez w src)<total w
 · have hmem:=(m2.ok V ⟨hni,hkn⟩ hs).2.2.1 (y.getD i default)
   have hb2:=hb (by simp [-List.getD_eq_getElem?_getD,hs])
   rw [Bool.and_eq_false_iff]
   refine .inr ?_
   have hlamp:=(y2 (y.getD i default)).1 (zbF hi4)
   have h5:b=true↔¬ stateV w (y.getD i default) night known=stateV (zez w src) (y.getD i default) night known:=by
    rw [hb2,hmem]
    exact ⟨fun h=>h.2,fun h=>⟨hlamp,h⟩⟩
   have h6:=zqb (a:=stateV w (y.getD i default) night known) (b:=stateV (zez w src) (y.getD i default) night known)
   rw [← h6] at h5
   cases b with
   | true=>
    have:=h5.1 rfl
    rw [Bool.not_eq_true] at this
    rw [this];rfl
   | false=>
    have:((decide ((stateV w (y.getD i default) night known).1=(stateV (zez w src) (y.getD i default) night known).1)) && (decide ((stateV w (y.getD i default) night known).2=(stateV (zez w src) (y.getD i default) night known).2)))=true:=by
     refine Classical.byContradiction (fun h=>?_)
     have:=h5.2 h
     cases this
    rw [this];rfl
 · simp [-List.getD_eq_getElem?_getD,hs]
end Go.Sp
end
