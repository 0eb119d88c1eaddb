/- Texts of the framework, or of the plain law, one behind another. -/
import Derived.Test.YtakjeajlmlmkeaaGreatFr1
import Derived.Test.YtakjeajlmlmkeaaGreatFr5
import Derived.KernelRfl
/- Rules for plain laws: what a printed definition yields. No program in sight. -/
section
set_option linter.all false
namespace Go.Sp
open Go.Av
def Wp {R:Type} (x:Option R) (P:R→Prop):Prop:=∃ r,x=some r∧P r
theorem Wp.eq {R:Type} {x:Option R} {v:R} (h:Wp x (· = v)):x=some v:=by
 obtain ⟨r,h1,h2⟩:=h;rw [h1,h2]
theorem zax {R:Type} {r:R} {P:R→Prop} (h:P r):Wp (some r) P:=⟨r,rfl,h⟩
theorem zaw {R:Type} {c:Prop} [Decidable c] {x:Option R} {P:R→Prop} (h:c) (k:Wp x P):Wp (must c x) P:=by
 unfold must;rw [if_pos h];exact k
theorem wp_bind {S R:Type} {x:Option S} {k:S→Option R} {P:R→Prop} {Q:S→Prop} (h:Wp x Q) (hk:∀ s,Q s→Wp (k s) P):Wp (zao x k) P:=by
 obtain ⟨r,h1,h2⟩:=h;rw [h1];exact hk r h2
theorem zaz {S R:Type} {x:Option S} {k:S→Option R} {P:R→Prop} {v:S} (h:x=some v) (hk:Wp (k v) P):Wp (zao x k) P:=by
 rw [h];exact hk
theorem zcK {R:Type} {b:Bool} {x y:Option R} {P:R→Prop} (h1:b=true→Wp x P) (h2:b=false→Wp y P):Wp (bif b then x else y) P:=by
 cases b
 · exact h2 rfl
 · exact h1 rfl
theorem wp_if {R:Type} {p:Prop} {b:Bool} {x y:Option R} {P:R→Prop} (hb:b=true↔p) (h1:p→Wp x P) (h2:¬ p→Wp y P):Wp (bif b then x else y) P:=
 zcK (fun h=>h1 (hb.1 h)) (fun h=>h2 (fun hp=>by rw [hb.2 hp] at h;cases h))
theorem zbJ {R:Type} {p:Prop} [Decidable p] {x y:Option R} {P:R→Prop} (h1:p→Wp x P) (h2:¬ p→Wp y P):Wp (bif (decide p) then x else y) P:=
 wp_if (decide_eq_true_iff) h1 h2
theorem zgG {R:Type} {p:Prop} [Decidable p] {x y:Option R} {P:R→Prop} (h1:¬ p→Wp x P) (h2:p→Wp y P):Wp (bif (!decide p) then x else y) P:=
 zcK (fun h=>h1 (by simpa using h)) (fun h=>h2 (by simpa using h))
theorem zcA {R:Type} {b:Bool} {x y:Option R} {P:R→Prop} (h:b=true) (h1:Wp x P):Wp (bif b then x else y) P:=by rw [h];exact h1
theorem za2 {R:Type} {b:Bool} {x y:Option R} {P:R→Prop} (h:b=false) (h1:Wp y P):Wp (bif b then x else y) P:=by rw [h];exact h1
theorem zgK {S R:Type} {f:(S→Option R)→Option R} {k:S→Option R} {P:R→Prop} (G:S→Prop) (hf:∀ K:S→Option R,(∀ s,G s→Wp (K s) P)→Wp (f K) P) (hk:∀ s,G s→Wp (k s) P):Wp (ziZ f k) P:=hf k hk
theorem zdU {S R:Type} {body:Nat→S→(S→Option R)→Option R} {ex:S→Option R} {n:Nat} {s0:S} {P:R→Prop} (Inv:Nat→S→Prop) (h0:Inv 0 s0)
 (hb:∀ (i:Nat) s (K:S→Option R),i<n→Inv i s→(∀ s',Inv (i+1) s'→Wp (K s') P)→Wp (body i s K) P) (he:∀ s,Inv n s→Wp (ex s) P):Wp (zau body ex n 0 s0) P:=by
 have go:∀ (m i:Nat),i+m=n→∀ s,Inv i s→Wp (zau body ex m i s) P:=by
  intro m
  induction m with
  | zero=>intro i hi s hs;have e:i=n:=(by omega);subst e;exact he s hs
  | succ m ih=>intro i hi s hs;exact hb i s _ (by omega) hs (fun s' h'=>ih (i+1) (by omega) s' h')
 exact go n 0 (by omega) s0 h0
theorem wp_loop {S R:Type} {body:S→(S→Option R)→Option R} {fuel:Nat} {s0:S} {P:R→Prop} (Inv:S→Prop) (μ:S→Nat) (hf:μ s0<fuel) (h0:Inv s0)
 (hb:∀ s (K:S→Option R),Inv s→(∀ s',Inv s'→μ s'<μ s→Wp (K s') P)→Wp (body s K) P):Wp (loopGo body fuel s0) P:=by
 have go:∀ (f:Nat) s,Inv s→μ s<f→Wp (loopGo body f s) P:=by
  intro f
  induction f with
  | zero=>intro s _ h;omega
  | succ f ih=>intro s hs hm;exact hb s _ hs (fun s' h' hl=>ih s' h' (by omega))
 exact go fuel s0 h0 hf
theorem zjx {S R:Type} {body:(Int×S)→((Int×S)→Option R)→Option R} {fuel:Nat} {s0:S} {P:R→Prop} (n:Nat) (hf:n<fuel) (Inv:Nat→S→Prop) (h0:Inv 0 s0)
 (hb:∀ (i:Nat) s (K:(Int×S)→Option R),i≤n→Inv i s→(∀ s',i<n→Inv (i+1) s'→Wp (K ((i:Int)+1,s')) P)→Wp (body ((i:Int),s) K) P):Wp (loopGo body fuel (0,s0)) P:=by
 have go:∀ (f i:Nat) s,i≤n→n - i<f→Inv i s→Wp (loopGo body f ((i:Int),s)) P:=by
  intro f
  induction f with
  | zero=>intro i s _ h;omega
  | succ f ih=>intro i s hi hm hs;exact hb i s _ hi hs (fun s' hl h'=>ih (i+1) s' (by omega) (by omega) h')
 exact go fuel 0 s0 (by omega) (by omega) h0
theorem zp9 {R:Type} {body:Int→(Int→Option R)→Option R} {fuel:Nat} {P:R→Prop} (n:Nat) (hf:n<fuel) (Inv:Nat→Prop) (h0:Inv 0)
 (hb:∀ (i:Nat) (K:Int→Option R),i≤n→Inv i→(i<n→Inv (i+1)→Wp (K ((i:Int)+1)) P)→Wp (body (i:Int) K) P):Wp (loopGo body fuel 0) P:=by
 have go:∀ (f i:Nat),i≤n→n - i<f→Inv i→Wp (loopGo body f (i:Int)) P:=by
  intro f
  induction f with
  | zero=>intro i _ h;omega
  | succ f ih=>intro i hi hm hs;exact hb i _ hi hs (fun hl h'=>ih (i+1) (by omega) (by omega) h')
 exact go fuel 0 (by omega) (by omega) h0
theorem zp8 {S R:Type} {body:(S×Int)→((S×Int)→Option R)→Option R} {fuel:Nat} {s0:S} {P:R→Prop} (n:Nat) (hf:n<fuel) (Inv:Nat→S→Prop) (h0:Inv 0 s0)
 (hb:∀ (i:Nat) s (K:(S×Int)→Option R),i≤n→Inv i s→(∀ s',i<n→Inv (i+1) s'→Wp (K (s',(i:Int)+1)) P)→Wp (body (s,(i:Int)) K) P):Wp (loopGo body fuel (s0,0)) P:=by
 have go:∀ (f i:Nat) s,i≤n→n - i<f→Inv i s→Wp (loopGo body f (s,(i:Int))) P:=by
  intro f
  induction f with
  | zero=>intro i s _ h;omega
  | succ f ih=>intro i s hi hm hs;exact hb i s _ hi hs (fun s' hl h'=>ih (i+1) s' (by omega) (by omega) h')
 exact go fuel 0 s0 (by omega) (by omega) h0
end Go.Sp
end
/- More rules for plain laws. No program in sight. -/
section
set_option linter.all false
namespace Go.Sp
open Go.Av
theorem zai {R:Type} {n:Int} {x:Option R} {P:R→Prop} (h : -9223372036854775808≤n∧n≤9223372036854775807) (k:Wp x P):Wp (must (inI n) x) P:=zaw h k
theorem zb2 {R:Type} {n b:Nat} {x:Option R} {P:R→Prop} (h:n * b≤140737488355328∧n≤9223372036854775807) (k:Wp x P):Wp (must (room n b) x) P:=zaw h k
theorem zlI {S R:Type} [Inhabited S] {W:Bool} {x:Option S} {k:S→Option R} {P:R→Prop} {Q:S→Prop} (h:W=true→Wp x Q) (hk:∀ s,(W=true→Q s)→Wp (k s) P):Wp (zao (bif W then x else some default) k) P:=by
 cases W
 · exact hk _ (fun h=>by cases h)
 · exact wp_bind (h rfl) (fun s hs=>hk s (fun _=>hs))
end Go.Sp
end
/- Rules for plain laws, more of them. No program in sight. -/
section
set_option linter.all false
namespace Go.Sp
open Go.Av
theorem ziA {R:Type} {body:Nat→Unit→(Unit→Option R)→Option R} {ex:Unit→Option R} {n:Nat} {P:R→Prop} (good:Nat→Prop)
 (hb:∀ (i:Nat) (K:Option R),i<n→(∀ j,j<i→good j)→(good i→Wp K P)→Wp (body i () (fun _=>K)) P) (he:(∀ j,j<n→good j)→Wp (ex ()) P):Wp (zau body ex n 0 ()) P:=by
 refine zdU (fun i _=>∀ j,j<i→good j) (fun j hj=>by omega) (fun i s K hi hI hK=>?_) (fun s hs=>he hs)
 have e:K=fun _=>K ():=funext fun u=>rfl
 rw [e]
 exact hb i (K ()) hi hI (fun g=>hK () (fun j hj=>by
  by_cases e:j=i
  · rw [e];exact g
  · exact hI j (by omega)))
theorem zpU {S R:Type} {W:Bool} {x y:Option S} {k:S→Option R} {P:R→Prop} {v:S} (hW:W=true) (h:x=some v) (hk:Wp (k v) P):Wp (zao (bif W then x else y) k) P:=by
 subst hW;rw [h];exact hk
theorem zp7 {S R:Type} {W:Bool} {x y:Option S} {k:S→Option R} {P:R→Prop} {v:S} (hW:W=false) (h:y=some v) (hk:Wp (k v) P):Wp (zao (bif W then x else y) k) P:=by
 subst hW;rw [h];exact hk
theorem zdW {R:Type} {c:Prop} [Decidable c] (h:c) (x:Option R):must c x=x:=if_pos h
theorem zmW {T:Type} (l:List T) (i j:Nat) (x d:T) (hi:i<l.length):(l.set i x).getD j d=if j=i then x else l.getD j d:=by
 simp only [List.getD_eq_getElem?_getD]
 by_cases e:j=i
 · subst e;rw [List.getElem?_set_self hi,if_pos rfl];rfl
 · rw [List.getElem?_set_ne (fun h=>e h.symm),if_neg e]
theorem zcu {T:Type} (l:List T) (x d:T) (i:Nat):(l++[x]).getD i d=if i=l.length then x else l.getD i d:=by
 simp only [List.getD_eq_getElem?_getD]
 rcases Nat.lt_trichotomy i l.length with h|h|h
 · rw [List.getElem?_append_left h,if_neg (by omega)]
 · subst h;simp
 · rw [if_neg (by omega),List.getElem?_eq_none (by simp;omega),List.getElem?_eq_none (by omega)]
theorem zbR {T:Type} [Inhabited T] {l:List T} {i:Nat} (h:i<l.length):l.getD i default∈l:=by
 rw [List.getD_eq_getElem?_getD,List.getElem?_eq_getElem h];exact List.getElem_mem h
theorem zc3 {T:Type} [Inhabited T] {l:List T} {x:T} (h:x∈l):∃ i,i<l.length∧l.getD i default=x:=by
 obtain ⟨i,hi,rfl⟩:=List.getElem_of_mem h
 exact ⟨i,hi,by rw [List.getD_eq_getElem?_getD,List.getElem?_eq_getElem hi];rfl⟩
theorem getD_take {T:Type} (l:List T) (n i:Nat) (d:T):(l.take n).getD i d=if i<n then l.getD i d else d:=by
 simp only [List.getD_eq_getElem?_getD,List.getElem?_take]
 split <;> rfl
theorem getD_drop {T:Type} (l:List T) (n i:Nat) (d:T):(l.drop n).getD i d=l.getD (n+i) d:=by
 simp only [List.getD_eq_getElem?_getD,List.getElem?_drop]
theorem zeF {T:Type} (l r:List T) (i:Nat) (d:T):(l++r).getD i d=if i<l.length then l.getD i d else r.getD (i - l.length) d:=by
 simp only [List.getD_eq_getElem?_getD]
 split
 · rename_i h;rw [List.getElem?_append_left h]
 · rename_i h;rw [List.getElem?_append_right (by omega)]
theorem zpC {T:Type} [Inhabited T] {l r:List T} (hl:l.length=r.length) (h:∀ i,i<l.length→l.getD i default=r.getD i default):l=r:=by
 refine List.ext_getElem hl (fun i h1 h2=>?_)
 have:=h i h1
 rw [List.getD_eq_getElem?_getD,List.getD_eq_getElem?_getD,List.getElem?_eq_getElem h1,List.getElem?_eq_getElem h2] at this
 exact this
theorem zpA {x:Int} {j:Nat} (h:0≤x):Int.fdiv x (2 ^ j)=((x.toNat >>> j:Nat):Int):=by
 obtain ⟨n,rfl⟩:=Int.eq_ofNat_of_zero_le h
 rw [Int.toNat_natCast,Nat.shiftRight_eq_div_pow]
 have:(2:Int) ^ j=((2 ^ j:Nat):Int):=by simp
 rw [this,Int.fdiv_eq_ediv_of_nonneg _ (Int.natCast_nonneg _)]
 exact (Int.natCast_ediv _ _).symm
theorem znB {A:Type} {body:Nat→Unit→(Unit→Option (List A))→Option (List A)} {n:Nat} (W:Nat→Bool) (x:Nat→A)
 (hb:∀ (i:Nat) (r:Option (List A)),i<n→body i () (fun _=>r)=zjR (W i) (x i) r):zau body (fun _=>some []) n 0 ()=some (((List.range' 0 n).filter W).map x):=by
 have go:∀ m i,i+m=n→zau body (fun _=>some []) m i ()=some (((List.range' i m).filter W).map x):=by
  intro m
  induction m with
  | zero=>intro i _;rfl
  | succ m ih=>
   intro i hi
   have e:zau body (fun _=>some []) (m+1) i ()=body i () (fun u=>zau body (fun _=>some []) m (i+1) u):=rfl
   rw [e]
   have e2:(fun u=>zau body (fun _=>some ([]:List A)) m (i+1) u)=fun _=>some (((List.range' (i+1) m).filter W).map x):=by
    funext u;exact ih (i+1) (by omega)
   rw [e2,hb i _ (by omega),List.range'_succ,List.filter_cons]
   cases W i <;> rfl
 exact go n 0 (by omega)
end Go.Sp
end
/- Binary search, and insertion into a sorted list. No program in sight. -/
section
set_option linter.all false
namespace Go.Sp
open Go.Av
def bsF {T E:Type} [Inhabited T] (fuel:Nat) (p0:List T) (p1:E) (p2:T→E→Option Int):Option (Int×Bool):=
 (loopGo (fun (s1:Int×Int) k1=>(bif (decide (s1.2<s1.1)) then must (inI (s1.2+s1.1)) <| must (inU (s1.2+s1.1)) <| must (inI (Int.fdiv (s1.2+s1.1) (2 ^ (1:Int).toNat))) <| must (0≤((Int.fdiv (s1.2+s1.1) (2 ^ (1:Int).toNat)):Int)∧((Int.fdiv (s1.2+s1.1) (2 ^ (1:Int).toNat)):Int)<((p0.length:Nat):Int)) <| zao (p2 (p0.getD ((Int.fdiv (s1.2+s1.1) (2 ^ (1:Int).toNat))).toNat default) p1) fun y7=>(bif (decide (y7<0)) then must (inI ((Int.fdiv (s1.2+s1.1) (2 ^ (1:Int).toNat))+1)) <| k1 (s1.1,((Int.fdiv (s1.2+s1.1) (2 ^ (1:Int).toNat))+1)) else k1 ((Int.fdiv (s1.2+s1.1) (2 ^ (1:Int).toNat)),s1.2)) else must (((decide (s1.2<((p0.length:Nat):Int)))=true→(0≤(s1.2:Int)∧(s1.2:Int)<((p0.length:Nat):Int)))) <| zao ((bif (decide (s1.2<((p0.length:Nat):Int))) then p2 (p0.getD (s1.2).toNat default) p1 else some default)) fun y12=>some (s1.2,((decide (s1.2<((p0.length:Nat):Int))) && (decide (y12=0)))))) fuel (((p0.length:Nat):Int),0))
theorem bsF_eq {T E:Type} [Inhabited T] {fuel:Nat} (l:List T) (x:E) {p2:T→E→Option Int} {c:T→Int} (hp:∀ t,p2 t x=some (c t)) {k:Nat} (hk:k≤l.length)
 (h1:∀ i,i<k→c (l.getD i default)<0) (h2:∀ i,k≤i→i<l.length→0≤c (l.getD i default)) (hl:l.length≤1000000000) (hf:l.length<fuel) :
 bsF fuel l x p2=some ((k:Int),decide (k<l.length) && decide (c (l.getD k default)=0)):=by
 unfold bsF
 refine Wp.eq (wp_loop (fun s=>∃ lo hi:Nat,s=((hi:Int),(lo:Int))∧lo≤k∧k≤hi∧hi≤l.length) (fun s=>(s.1 - s.2).toNat) (by simp only;omega) ⟨0,l.length,rfl,by omega,hk,by omega⟩ ?_)
 rintro _ K ⟨lo,hi,rfl,a1,a2,a3⟩ hK
 simp only at hK ⊢
 refine zbJ (fun hlt=>?_) (fun hge=>?_)
 · have e2:Int.fdiv ((lo:Int)+hi) (2 ^ (1:Int).toNat)=(((lo+hi) / 2:Nat):Int):=by
    rw [show (1:Int).toNat=1 from rfl,zpA (by omega),show ((lo:Int)+hi).toNat=lo+hi by omega,Nat.shiftRight_eq_div_pow]
   rw [e2]
   generalize hm:(lo+hi) / 2=m
   refine zai (by omega) (zaw (by unfold inU;omega) (zai (by omega) (zaw (by omega) (zaz (hp _) ?_))))
   rw [Int.toNat_natCast]
   refine zbJ (fun hc=>?_) (fun hc=>?_)
   · refine zai (by omega) (hK _ ⟨m+1,hi,by simp,?_,a2,a3⟩ (by simp only;omega))
     rcases Nat.lt_or_ge m k with h|h
     · omega
     · have:=h2 m h (by omega);omega
   · refine hK _ ⟨lo,m,rfl,a1,?_,by omega⟩ (by simp only;omega)
     rcases Nat.lt_or_ge m k with h|h
     · exact absurd (h1 m h) hc
     · exact h
 · have elo:lo=k:=by omega
   subst elo
   refine zaw (fun h=>by have:=of_decide_eq_true h;omega) ?_
   by_cases hlt:(lo:Int)<(l.length:Int)
   · refine zpU (by simp;omega) (hp _) (zax ?_)
     rw [Int.toNat_natCast]
     congr 2
     simp
   · refine zp7 (by simp;omega) rfl (zax ?_)
     have e1:decide ((lo:Int)<(l.length:Int))=false:=by simp;omega
     have e2:decide (lo<l.length)=false:=by simp;omega
     rw [e1,e2];rfl
theorem zmy {A:Nat→Prop}:∀ (n:Nat),(∀ i j,i<j→j<n→A j→A i)→∃ k,k≤n∧(∀ i,i<k→A i)∧∀ i,k≤i→i<n→¬ A i
 | 0,_=>⟨0,Nat.le_refl _,fun i h=>absurd h (Nat.not_lt_zero _),fun i _ h=>absurd h (Nat.not_lt_zero _)⟩
 | n+1,hm=>by
  obtain ⟨k,h1,h2,h3⟩:=zmy n (fun i j hij hj=>hm i j hij (by omega))
  by_cases hn:A n
  · refine ⟨n+1,Nat.le_refl _,fun i hi=>?_,fun i h4 h5=>by omega⟩
    rcases Nat.lt_or_ge i n with h|h
    · exact hm i n h (by omega) hn
    · have:i=n:=by omega
      rw [this];exact hn
  · refine ⟨k,by omega,h2,fun i h4 h5=>?_⟩
    rcases Nat.lt_or_ge i n with h|h
    · exact h3 i h4 h
    · have:i=n:=by omega
      rw [this];exact hn
theorem ziB {T:Type} [Inhabited T] {p:T→Bool}:∀ (l:List T) (k:Nat),k≤l.length→(∀ i,i<k→p (l.getD i default)=true)→(k<l.length→p (l.getD k default)=false)→l.takeWhile p=l.take k∧l.dropWhile p=l.drop k
 | [],k,hk,_,_=>by simp
 | a::l,0,hk,h1,h2=>by
  have:=h2 (by simp)
  simp at this
  simp [this]
 | a::l,k+1,hk,h1,h2=>by
  have h0:=h1 0 (by omega)
  simp at h0
  obtain ⟨q1,q2⟩:=ziB l k (by simpa using hk) (fun i hi=>by simpa using h1 (i+1) (by omega)) (fun hi=>by simpa using h2 (by simpa using hi))
  simp [h0,q1,q2]
theorem znH {T:Type} [Inhabited T] (f:T→Int) {l:List T} (h:∀ i,0<i→i<l.length→f (l.getD (i - 1) default)<f (l.getD i default)):l.Pairwise (fun a b=>f a<f b):=by
 rw [List.pairwise_iff_getElem]
 intro i j hi hj hij
 have step:∀ k,i+1+k<l.length→f l[i]<f (l.getD (i+1+k) default):=by
  intro k
  induction k with
  | zero=>
   intro hk
   have:=h (i+1) (by omega) hk
   have e:l.getD (i+1 - 1) default=l[i]:=by simp [List.getElem?_eq_getElem hi]
   rw [e] at this;exact this
  | succ k ih=>
   intro hk
   have h1:=ih (by omega)
   have h2:=h (i+1+(k+1)) (by omega) hk
   have e:i+1+(k+1) - 1=i+1+k:=by omega
   rw [e] at h2;omega
 have:=step (j - i - 1) (by omega)
 have e:i+1+(j - i - 1)=j:=by omega
 rw [e] at this
 simpa [List.getElem?_eq_getElem hj] using this
theorem ze3 {T:Type} [Inhabited T] {f:T→Int} {l:List T} (hs:l.Pairwise (fun a b=>f a<f b)) {i j:Nat} (hij:i<j) (hj:j<l.length):f (l.getD i default)<f (l.getD j default):=by
 have:=List.pairwise_iff_getElem.1 hs i j (by omega) hj hij
 simpa [List.getElem?_eq_getElem hj,List.getElem?_eq_getElem (show i<l.length by omega)] using this
theorem zkQ {T:Type} [Inhabited T] (f:T→Int) {l:List T} (hs:l.Pairwise (fun a b=>f a<f b)) (s:Int):∃ k,k≤l.length∧(∀ i,i<k→f (l.getD i default)<s)∧(∀ i,k≤i→i<l.length→¬ f (l.getD i default)<s) ∧
 ((∀ y∈l,f y≠s)↔¬ (k<l.length∧f (l.getD k default)=s))∧l.takeWhile (fun y=>decide (f y<s))=l.take k∧l.dropWhile (fun y=>decide (f y<s))=l.drop k:=by
 obtain ⟨k,k1,k2,k3⟩:=zmy (A:=fun i=>f (l.getD i default)<s) l.length (fun i j hij hj h=>Int.lt_trans (ze3 hs hij hj) h)
 refine ⟨k,k1,k2,k3,⟨fun h hk=>h _ (zbR hk.1) hk.2,fun h y hy e=>?_⟩,ziB l k k1 (fun i hi=>decide_eq_true (k2 i hi)) (fun hk=>decide_eq_false (k3 k (Nat.le_refl _) hk))⟩
 obtain ⟨i,hi,rfl⟩:=zc3 hy
 rcases Nat.lt_trichotomy i k with hik|hik|hik
 · have:=k2 i hik;omega
 · subst hik;exact h ⟨hi,e⟩
 · have h1:=ze3 hs hik hi
   have h2:=k3 k (Nat.le_refl _) (by omega)
   omega
end Go.Sp
end
/- slices.IndexFunc and slices.DeleteFunc, as they are printed. No program in sight. -/
section
set_option linter.all false
namespace Go.Sp
open Go.Av
set_option maxRecDepth 100000
theorem zfW {T:Type} [Inhabited T] {p:T→Option Bool} {q:T→Bool} (hp:∀ x,p x=some (q x)) (l:List T) :
 (zau (fun i1 (s1:Unit) k1=>zao (p (l.getD i1 default)) fun y3=>(bif y3 then some (i1:Int) else k1 ())) (fun (s1:Unit)=>some (-1)) l.length 0 ():Option Int)=some (match l.findIdx? q with|some i=>(i:Int)|none=>-1):=by
 refine (ziA (P:=fun r=>r=(match l.findIdx? q with|some i=>(i:Int)|none=>-1)) (fun i=>q (l.getD i default)=false) (fun i K hi hb hK=>?_) (fun h1=>?_)).eq
 · rw [hp]
   refine zcK (fun h=>zax ?_) (fun h=>hK h)
   have:l.findIdx? q=some i:=by
    rw [List.findIdx?_eq_some_iff_getElem]
    refine ⟨hi,?_,fun j hj=>?_⟩
    · rw [List.getD_eq_getElem?_getD,List.getElem?_eq_getElem hi] at h;exact h
    · have:=hb j hj
      rw [List.getD_eq_getElem?_getD,List.getElem?_eq_getElem (by omega)] at this
      simpa using this
   rw [this]
 · refine zax ?_
   have:l.findIdx? q=none:=by
    rw [List.findIdx?_eq_none_iff]
    intro x hx
    obtain ⟨i,hi,rfl⟩:=zc3 hx
    exact h1 i hi
   rw [this]
end Go.Sp
end
/- Plain laws, mantle: valid batches, mantles, burns, looks and wears, checked by both. No program in sight. -/
section
set_option linter.all false
namespace Go.Sp
open Go.Av
set_option maxRecDepth 100000
structure BatchOk (b:Batch):Prop where
 id:1≤b.Id∧b.Id≤99
 life:0≤b.Life.Lo∧b.Life.Lo≤b.Life.Hi∧b.Life.Hi≤1000000
structure ToldOk (s l n k u:Int):Prop where
 src:1≤s∧s≤99999
 lamp:1≤l∧l≤999
 night:0≤n∧n≤100000
 known:0≤k∧k≤100000
 til:u=0∨(k<u∧u≤100000)
structure MantleOk (m:Mantle):Prop where
 told:ToldOk m.Source m.Lamp m.Night m.Known m.Until
 batch:1≤m.Batch∧m.Batch≤99
structure BurnOk (b:Burn):Prop where
 told:ToldOk b.Source b.Lamp b.Night b.Known b.Until
 min:0≤b.Minutes.Lo∧b.Minutes.Lo≤b.Minutes.Hi∧b.Minutes.Hi≤1440
def zgg (l:Look):Prop:=ToldOk l.Source l.Lamp l.Night l.Known l.Until
theorem mwithin {a b c:Int}:zaF a b c=(decide (b≤a) && decide (a≤c)):=rfl
theorem bif0 (b:Bool) {c:Int} (hc:c≠0):((bif b then c else 0)=0)↔b=false:=by cases b <;> simp [-List.getD_eq_getElem?_getD,hc]
theorem zoV (b:Bool) (c:Int):(bif b then c else 0)=0∨(bif b then c else 0)=c:=by cases b <;> simp [-List.getD_eq_getElem?_getD]
theorem zgf {n k u:Int}:za6 n k u=true↔(0≤n∧n≤100000)∧(0≤k∧k≤100000)∧(u=0∨(k<u∧u≤100000)):=by
 simp only [za6,zaN,mwithin,Bool.and_eq_true,Bool.or_eq_true,decide_eq_true_eq]
 omega
theorem ziW {b:Batch}:zaX b=0↔BatchOk b:=by
 unfold zaX
 rw [bif0 _ (by decide)]
 simp only [zbD,mwithin,Bool.or_eq_false_iff,Bool.not_eq_false',Bool.and_eq_true,decide_eq_true_eq]
 exact ⟨fun h=>⟨h.1,by omega⟩,fun h=>⟨h.id,by have:=h.life;omega⟩⟩
theorem zk4 {m:Mantle}:zbb m=0↔MantleOk m:=by
 unfold zbb
 rw [bif0 _ (by decide)]
 simp only [za0,zaK,mwithin,Bool.or_eq_false_iff,Bool.not_eq_false',Bool.and_eq_true,decide_eq_true_eq,zgf]
 exact ⟨fun h=>⟨⟨h.1.1.1,h.1.1.2,h.2.1,h.2.2.1,h.2.2.2⟩,h.1.2⟩,fun h=>⟨⟨⟨h.told.src,h.told.lamp⟩,h.batch⟩,h.told.night,h.told.known,h.told.til⟩⟩
theorem znr {m:Burn}:zbt m=0↔BurnOk m:=by
 unfold zbt
 rw [bif0 _ (by decide)]
 simp only [za0,zaK,zbD,mwithin,Bool.or_eq_false_iff,Bool.not_eq_false',Bool.and_eq_true,decide_eq_true_eq,zgf]
 exact ⟨fun h=>⟨⟨h.1.1.1,h.1.1.2,h.2.1,h.2.2.1,h.2.2.2⟩,by have:=h.1.2;omega⟩,fun h=>⟨⟨⟨h.told.src,h.told.lamp⟩,by have:=h.min;omega⟩,h.told.night,h.told.known,h.told.til⟩⟩
theorem zjJ {m:Look}:zaV m=0↔zgg m:=by
 unfold zaV
 rw [bif0 _ (by decide)]
 simp only [za0,zaK,mwithin,Bool.or_eq_false_iff,Bool.not_eq_false',Bool.and_eq_true,decide_eq_true_eq,zgf]
 exact ⟨fun h=>⟨h.1.1,h.1.2,h.2.1,h.2.2.1,h.2.2.2⟩,fun h=>⟨⟨h.src,h.lamp⟩,h.night,h.known,h.til⟩⟩
theorem zqg (b:Batch):zbi b=zaX b:=by
 have h:zbi b=0↔BatchOk b:=by
  unfold zbi
  rw [bif0 _ (by decide)]
  simp only [zaE,Bool.or_eq_false_iff,Bool.not_eq_false',Bool.and_eq_true,decide_eq_true_eq,decide_eq_false_iff_not]
  exact ⟨fun h=>⟨h.1.1,by omega⟩,fun h=>⟨⟨h.id,by have:=h.life;omega⟩,by have:=h.life;omega⟩⟩
 rw [← ziW] at h
 have h1:=zoV (((!(zaE b.Id 1 99)) || (!(zaE b.Life.Lo 0 b.Life.Hi))) || (decide (1000000<b.Life.Hi))) 60
 have h2:=zoV ((!(zaF b.Id 1 99)) || (!(zbD b.Life 1000000))) 60
 change zbi b=0∨zbi b=60 at h1
 change zaX b=0∨zaX b=60 at h2
 omega
def zeN {T:Type} [Inhabited T] (ok:T→Prop) (num:T→Int) (l:List T):Prop:=∀ i,i<l.length→ok (l.getD i default)∧(0<i→num (l.getD (i - 1) default)<num (l.getD i default))
theorem zgx {T:Type} [Inhabited T] {chk num:T→Int} {ok:T→Prop} (hok:∀ x,chk x=0↔ok x) {l:List T} {p1:Int} (hl:l.length≤9223372036854775807) :
 Wp (zau (fun i1 (s1:Unit) k1=>zao ((fun x0=>some (chk x0)) (l.getD i1 default)) fun y3=>must ((((!(!decide (y3=0))) && (decide (0<(i1:Int))))=true→(inI ((i1:Int) - 1)))) <| must ((((!(!decide (y3=0))) && (decide (0<(i1:Int))))=true→(0≤(((i1:Int) - 1):Int)∧(((i1:Int) - 1):Int)<((l.length:Nat):Int)))) <| zao ((bif ((!(!decide (y3=0))) && (decide (0<(i1:Int)))) then (fun x0=>some (num x0)) (l.getD (((i1:Int) - 1)).toNat default) else some default)) fun y7=>zao ((bif ((!(!decide (y3=0))) && (decide (0<(i1:Int)))) then (fun x0=>some (num x0)) (l.getD i1 default) else some default)) fun y9=>(bif ((!decide (y3=0)) || ((decide (0<(i1:Int))) && (decide (y9≤y7)))) then some false else k1 ())) (fun (s1:Unit)=>some (decide (((l.length:Nat):Int)≤p1))) l.length 0 ():Option Bool)
  (fun b=>b=true↔zeN ok num l∧(l.length:Int)≤p1):=by
 refine ziA (fun i=>ok (l.getD i default)∧(0<i→num (l.getD (i - 1) default)<num (l.getD i default))) (fun i K hi _ hK=>?_) (fun h1=>zax ?_)
 · refine zaz rfl ?_
   refine zaw (fun _=>by unfold inI;omega) ?_
   refine zaw (fun h=>by simp [-List.getD_eq_getElem?_getD] at h;omega) ?_
   have e:(((i:Int) - 1)).toNat=i - 1:=by omega
   rw [e]
   refine zlI (Q:=fun y=>y=num (l.getD (i - 1) default)) (fun _=>zax rfl) (fun y7 h7=>?_)
   refine zlI (Q:=fun y=>y=num (l.getD i default)) (fun _=>zax rfl) (fun y9 h9=>?_)
   by_cases hc:chk (l.getD i default)=0
   · by_cases h0:0<i
     · have hW:((!(!decide (chk (l.getD i default)=0))) && (decide (0<(i:Int))))=true:=by simp [-List.getD_eq_getElem?_getD,hc,h0]
       rw [h7 hW,h9 hW]
       refine zcK (fun hb=>zax ?_) (fun hb=>hK ⟨(hok _).1 hc,fun _=>?_⟩)
       · simp only [hc,decide_true,Bool.not_true,Bool.false_or,Bool.and_eq_true,decide_eq_true_eq] at hb
         refine ⟨fun h=>(by cases h),fun h=>?_⟩
         have:=(h.1 i hi).2 h0;omega
       · simp only [hc,decide_true,Bool.not_true,Bool.false_or,Bool.and_eq_false_iff,decide_eq_false_iff_not] at hb
         omega
     · refine za2 (by simp [-List.getD_eq_getElem?_getD,hc];omega) (hK ⟨(hok _).1 hc,fun h=>absurd h h0⟩)
   · refine zcA (by simp [-List.getD_eq_getElem?_getD,hc]) (zax ⟨fun h=>(by cases h),fun h=>absurd ((hok _).2 (h.1 i hi).1) hc⟩)
 · simp only [decide_eq_true_eq]
   exact ⟨fun h=>⟨h1,h⟩,fun h=>h.2⟩
structure WearOk (w:Wear):Prop where
 nb:w.Batches.length≤8
 nm:w.Mantles.length≤60
 nu:w.Burns.length≤60
 nl:w.Looks.length≤60
 ba:zeN BatchOk (·.Id) w.Batches
 ma:zeN MantleOk (·.Source) w.Mantles
 bu:zeN BurnOk (·.Source) w.Burns
 lo:zeN zgg (·.Source) w.Looks
 has:∀ i,i<w.Mantles.length→∃ j,j<w.Batches.length∧(w.Batches.getD j default).Id=(w.Mantles.getD i default).Batch
structure Fits (w:Wear):Prop where
 b:w.Batches.length≤4611686018427387904
 m:w.Mantles.length≤4611686018427387904
 u:w.Burns.length≤4611686018427387904
 l:w.Looks.length≤4611686018427387904
theorem WearOk.fits {w:Wear} (h:WearOk w):Fits w:=⟨by have:=h.nb;omega,by have:=h.nm;omega,by have:=h.nu;omega,by have:=h.nl;omega⟩
def zcY (w:Wear) (id:Int):Int:=match w.Batches.findIdx? (fun b=>decide (b.Id=id)) with
 | some i=>(i:Int)
 | none=>-1
theorem zgv (w:Wear) (id:Int):zbS w id=some (zcY w id):=by
 unfold zbS zbZ
 rw [zfW (p:=fun x0=>some (zb0 x0 id)) (q:=fun b=>decide (b.Id=id)) (fun x=>rfl)]
 rfl
theorem zgw {w:Wear} {id:Int}:zcY w id<0↔¬ ∃ j,j<w.Batches.length∧(w.Batches.getD j default).Id=id:=by
 unfold zcY
 cases h:w.Batches.findIdx? (fun b=>decide (b.Id=id)) with
 | none=>
  rw [List.findIdx?_eq_none_iff] at h
  simp only [Int.reduceNeg,Int.reduceLT,true_iff]
  rintro ⟨j,hj,e⟩
  have:=h _ (zbR hj)
  simp [-List.getD_eq_getElem?_getD,e] at this
 | some i=>
  rw [List.findIdx?_eq_some_iff_getElem] at h
  obtain ⟨h1,h2,h3⟩:=h
  refine ⟨fun h=>by simp [-List.getD_eq_getElem?_getD] at h;omega,fun h=>absurd ⟨i,h1,?_⟩ h⟩
  rw [List.getD_eq_getElem?_getD,List.getElem?_eq_getElem h1]
  simpa [-List.getD_eq_getElem?_getD] using h2
theorem zjj (w:Wear) (id:Int):zcY w id<(w.Batches.length:Int):=by
 unfold zcY
 cases h:w.Batches.findIdx? (fun b=>decide (b.Id=id)) with
 | none=>simp [-List.getD_eq_getElem?_getD];omega
 | some i=>
  rw [List.findIdx?_eq_some_iff_getElem] at h
  obtain ⟨h1,h2,h3⟩:=h
  simp [-List.getD_eq_getElem?_getD];omega
theorem zlB {w:Wear} {id:Int} (h:0≤zcY w id):(w.Batches.getD (zcY w id).toNat default).Id=id:=by
 unfold zcY at h ⊢
 cases h':w.Batches.findIdx? (fun b=>decide (b.Id=id)) with
 | none=>rw [h'] at h;simp [-List.getD_eq_getElem?_getD] at h
 | some i=>
  rw [List.findIdx?_eq_some_iff_getElem] at h'
  obtain ⟨h1,h2,h3⟩:=h'
  simp only [Int.toNat_natCast]
  rw [List.getD_eq_getElem?_getD,List.getElem?_eq_getElem h1]
  simpa [-List.getD_eq_getElem?_getD] using h2
theorem zeN.sorted {T:Type} [Inhabited T] {ok:T→Prop} {num:T→Int} {l:List T} (h:zeN ok num l):l.Pairwise (fun a b=>num a<num b):=znH num (fun i h0 hi=>(h i hi).2 h0)
theorem zeN.ok {T:Type} [Inhabited T] {ok:T→Prop} {num:T→Int} {l:List T} (h:zeN ok num l) {x:T} (hx:x∈l):ok x:=by
 obtain ⟨i,hi,rfl⟩:=zc3 hx
 exact (h i hi).1
theorem zeN.inj {T:Type} [Inhabited T] {ok:T→Prop} {num:T→Int} {l:List T} (h:zeN ok num l) {i j:Nat} (hi:i<l.length) (hj:j<l.length) (e:num (l.getD i default)=num (l.getD j default)):i=j:=by
 rcases Nat.lt_trichotomy i j with h1|h1|h1
 · have:=ze3 h.sorted h1 hj;omega
 · exact h1
 · have:=ze3 h.sorted h1 hi;omega
theorem zk3 {w:Wear} (hf:Fits w):Wp (zbT w) (fun r=>(WearOk w∧r=0)∨(¬ WearOk w∧r=64)):=by
 unfold zbT
 have a1:=zgx (chk:=zaX) (num:=zcz) (fun _=>ziW) (l:=w.Batches) (p1:=8) (by have:=hf.b;omega)
 have a2:=zgx (chk:=zbb) (num:=zcy) (fun _=>zk4) (l:=w.Mantles) (p1:=60) (by have:=hf.m;omega)
 have a3:=zgx (chk:=zbt) (num:=zcx) (fun _=>znr) (l:=w.Burns) (p1:=60) (by have:=hf.u;omega)
 have a4:=zgx (chk:=zaV) (num:=zc4) (fun _=>zjJ) (l:=w.Looks) (p1:=60) (by have:=hf.l;omega)
 refine wp_bind (x:=zcd w.Batches 8 _ _) a1 (fun y1 h1=>?_)
 refine wp_bind (x:=zb5 w.Mantles 60 _ _) a2 (fun y3 h3=>?_)
 refine wp_bind (x:=zcp w.Burns 60 _ _) a3 (fun y5 h5=>?_)
 refine zlI (Q:=fun y=>y=true↔zeN zgg (·.Source) w.Looks∧(w.Looks.length:Int)≤60) (fun _=>a4) (fun y7 h7=>?_)
 refine zlI (Q:=fun y=>y=false↔∀ i,i<w.Mantles.length→∃ j,j<w.Batches.length∧(w.Batches.getD j default).Id=(w.Mantles.getD i default).Batch) (fun _=>?_) (fun y9 h9=>?_)
 · unfold zbw zbP
   rw [zfW (p:=fun x0=>zcw x0 w) (q:=fun m=>decide (zcY w m.Batch<0)) (fun x=>by
    unfold zcw;rw [zgv];rfl)]
   refine zaz rfl (zax ?_)
   cases h:w.Mantles.findIdx? (fun m=>decide (zcY w m.Batch<0)) with
   | none=>
    rw [List.findIdx?_eq_none_iff] at h
    refine ⟨fun _ i hi=>?_,fun _=>rfl⟩
    have:=h _ (zbR hi)
    simp only [decide_eq_false_iff_not,zgw,Classical.not_not] at this
    exact this
   | some i=>
    rw [List.findIdx?_eq_some_iff_getElem] at h
    obtain ⟨k1,k2,k3⟩:=h
    refine ⟨fun e=>(by simp [-List.getD_eq_getElem?_getD] at e),fun e=>?_⟩
    have:=e i k1
    rw [List.getD_eq_getElem?_getD (l:=w.Mantles),List.getElem?_eq_getElem k1] at this
    simp only [decide_eq_true_eq,zgw] at k2
    exact absurd this k2
 · refine zcK (fun hb=>zax (.inr ⟨fun V=>?_,rfl⟩)) (fun hb=>zax (.inl ⟨?_,rfl⟩))
   · have e1:=h1.2 ⟨V.ba,by have:=V.nb;omega⟩
     have e3:=h3.2 ⟨V.ma,by have:=V.nm;omega⟩
     have e5:=h5.2 ⟨V.bu,by have:=V.nu;omega⟩
     have e7:=(h7 (by simp [-List.getD_eq_getElem?_getD,e1,e3,e5])).2 ⟨V.lo,by have:=V.nl;omega⟩
     have e9:=(h9 (by simp [-List.getD_eq_getElem?_getD,e1,e3,e5,e7])).2 V.has
     simp [-List.getD_eq_getElem?_getD,e1,e3,e5,e7,e9] at hb
   · simp only [Bool.or_eq_false_iff,Bool.not_eq_false'] at hb
     obtain ⟨⟨⟨⟨e1,e3⟩,e5⟩,e7⟩,e9⟩:=hb
     have f7:=(h7 (by simp [-List.getD_eq_getElem?_getD,e1,e3,e5])).1 e7
     have f9:=(h9 (by simp [-List.getD_eq_getElem?_getD,e1,e3,e5,e7])).1 e9
     have f1:=h1.1 e1
     have f3:=h3.1 e3
     have f5:=h5.1 e5
     exact ⟨by omega,by omega,by omega,by omega,f1.1,f3.1,f5.1,f7.1,f9⟩
theorem zfR {w:Wear} (h:WearOk w):zbT w=some 0:=by
 obtain ⟨r,e,h1|h1⟩:=zk3 h.fits
 · rw [e,h1.2]
 · exact absurd h h1.1
theorem znq {w:Wear} (hf:Fits w) (h:¬ WearOk w):zbT w=some 64:=by
 obtain ⟨r,e,h1|h1⟩:=zk3 hf
 · exact absurd h1.1 h
 · rw [e,h1.2]
end Go.Sp
end
/- Plain laws, mantle: the document's check; one look more, by both; MantleChecks. No program in sight. -/
section
set_option linter.all false
namespace Go.Sp
open Go.Av
set_option maxRecDepth 100000
theorem zj3 {R:Type} {body:Int→(Int→Option R)→Option R} {fuel:Nat} {P:R→Prop} {n:Nat} (hf:n<fuel) (good:Nat→Prop)
 (hb:∀ (i:Nat) (K:Int→Option R),i<n→(∀ j,j<i→good j)→(good i→Wp (K ((i:Int)+1)) P)→Wp (body (i:Int) K) P) (he:(∀ j,j<n→good j)→∀ K,Wp (body (n:Int) K) P):Wp (loopGo body fuel 0) P:=by
 refine zp9 n hf (fun i=>∀ j,j<i→good j) (fun j hj=>by omega) (fun i K hi hI hK=>?_)
 by_cases e:i=n
 · subst e;exact he hI K
 · exact hb i K (by omega) hI (fun g=>hK (by omega) (fun j hj=>by
    by_cases e:j=i
    · rw [e];exact g
    · exact hI j (by omega)))
end Go.Sp
end
/- Plain laws, mantle: the chapter's examples. -/
section
set_option linter.all false
namespace Go.Sp
open Go.Av
theorem znP:zdH 20000=some true:=by kernel_rfl
end Go.Sp
end
/- Plain laws, mantle: one look more, by both; MantleChecks. No program in sight. -/
section
set_option linter.all false
namespace Go.Sp
open Go.Av
set_option maxRecDepth 100000
theorem cmpI (a b:Int):za1 a b=if a<b then -1 else if b<a then 1 else 0:=by
 unfold za1 cmp_isNaN_int
 by_cases h1:a<b
 · simp [-List.getD_eq_getElem?_getD,h1]
 · by_cases h2:b<a <;> simp [-List.getD_eq_getElem?_getD,h1,h2]
theorem zm8 {a b:Int}:za1 a b<0↔a<b:=by rw [cmpI];split <;> (try split) <;> omega
theorem zoP {a b:Int}:za1 a b=0↔a=b:=by rw [cmpI];split <;> (try split) <;> omega
structure InsAt (l:List Look) (x:Look) (k:Nat):Prop where
 le:k≤l.length
 lo:∀ i,i<k→(l.getD i default).Source<x.Source
 hi:∀ i,k≤i→i<l.length→¬ (l.getD i default).Source<x.Source
theorem zps {l:List Look} (hs:zeN zgg (·.Source) l) (x:Look):∃ k,InsAt l x k:=by
 obtain ⟨k,h1,h2,h3,_⟩:=zkQ (fun l:Look=>l.Source) hs.sorted x.Source
 exact ⟨k,h1,h2,h3⟩
def zep (w:Wear) (x:Look) (k:Nat):Wear:=⟨w.Batches,w.Mantles,w.Burns,w.Looks.take k++[x]++w.Looks.drop k⟩
def zhm:Wear:=⟨[],[],[],[]⟩
def zkd (w:Wear) (x:Look) (k:Nat):Wear×Int:=
 bif (!decide (zaV x=0)) || (decide (k<w.Looks.length) && decide ((w.Looks.getD k default).Source=x.Source)) then (zhm,63) else bif decide (w.Looks.length=60) then (zhm,2) else (zep w x k,0)
theorem mlooked {w:Wear} {x:Look} {fuel k:Nat} (V:WearOk w) (hk:InsAt w.Looks x k) (hf:100<fuel):zc6 fuel w x=some (zkd w x k):=by
 unfold zc6
 have nl:=V.nl;have nb:=V.nb;have nm:=V.nm;have nu:=V.nu
 refine Wp.eq (zaz (zfR V) (za2 (by simp [-List.getD_eq_getElem?_getD]) ?_))
 have hbs:=bsF_eq (fuel:=fuel) w.Looks x (p2:=fun x0 x1=>some (zbG x0 x1)) (c:=fun t=>zbG t x) (fun t=>rfl) (k:=k) hk.le (fun i hi=>zm8.2 (hk.lo i hi)) (fun i hi hi'=>by
  have:=hk.hi i hi hi'
  have e:=zm8 (a:=(w.Looks.getD i default).Source) (b:=x.Source)
  show 0≤za1 _ _
  omega) (by omega) (by omega)
 refine zaz (show zbk fuel w.Looks x _=_ from hbs) ?_
 have e0:decide (zbG (w.Looks.getD k default) x=0)=decide ((w.Looks.getD k default).Source=x.Source):=by
  rw [decide_eq_decide];exact zoP
 simp only [e0]
 unfold zkd
 refine zcK (fun h=>zax ?_) (fun h=>?_)
 · rw [h];rfl
 rw [h]
 refine zbJ (fun h2=>zax ?_) (fun h2=>?_)
 · have:w.Looks.length=60:=by omega
   simp [-List.getD_eq_getElem?_getD,this,zhm]
 have h2':¬ w.Looks.length=60:=by omega
 unfold zcH zco zc0 zbg zcG
 refine zaz (zdW (by unfold room;simp [-List.getD_eq_getElem?_getD];omega) _) (zaz (zdW (by unfold room;simp [-List.getD_eq_getElem?_getD];omega) _) (zaz (zdW (by unfold room;simp [-List.getD_eq_getElem?_getD];omega) _) (zaz (zdW (by unfold room;simp [-List.getD_eq_getElem?_getD];omega) _) ?_)))
 have hle:=hk.le
 refine wp_bind (Q:=fun y=>y=w.Looks.take k++[x]++w.Looks.drop k) (zaw (by simp [-List.getD_eq_getElem?_getD];omega) (zaw (by unfold room;simp [-List.getD_eq_getElem?_getD];omega) (zax (by simp [-List.getD_eq_getElem?_getD])))) (fun y hy=>zax ?_)
 subst hy
 simp [-List.getD_eq_getElem?_getD,h2',zep]
end Go.Sp
end
/- Plain laws: slices.SortStableFunc on ints ends, and what it leaves is a rearrangement. No program in sight. -/
section
set_option linter.all false
namespace Go.Sp
open Go.Av
set_option maxRecDepth 100000
theorem swap_perm {l s:List Int} (h:s.Perm l) {i j:Int} (hi:0≤i∧i<(s.length:Int)) (hj:0≤j∧j<(s.length:Int)) :
 ((s.set i.toNat (s.getD j.toNat default)).set j.toNat (s.getD i.toNat default)).Perm l:=by
 have h1:i.toNat<s.length:=by omega
 have h2:j.toNat<s.length:=by omega
 rw [List.getD_eq_getElem?_getD,List.getElem?_eq_getElem h2,List.getD_eq_getElem?_getD,List.getElem?_eq_getElem h1]
 exact (List.set_set_perm h1 h2).trans h
theorem half {x:Int} (h:0≤x):Int.fdiv x (2 ^ (1:Int).toNat)=x / 2:=by
 rw [show (1:Int).toNat=1 from rfl,Int.fdiv_eq_ediv_of_nonneg _ (by decide)];rfl
theorem ziV {l s:List Int} (h:s.Perm l) {i:Nat} (hi:i<s.length):s.getD i default∈l:=h.mem_iff.1 (zbR hi)
def Cmp (l:List Int) (c:Int→Int→Option Int):Prop:=∀ a∈l,∀ b∈l,∃ r,c a b=some r
theorem Cmp.perm {l s:List Int} {c:Int→Int→Option Int} (H:Cmp l c) (h:s.Perm l):Cmp s c:=fun a ha b hb=>H a (h.mem_iff.1 ha) b (h.mem_iff.1 hb)
theorem zie {fuel:Nat} (hf:1000≤fuel) {l:List Int} (hl:l.length≤100) {c:Int→Int→Option Int} (H:Cmp l c) {a b:Int} (ha:0≤a∧a≤1000) (hb:b≤(l.length:Int)) :
 Wp (zaO fuel l a b c) (fun r=>r.Perm l):=by
 unfold zaO
 refine zai (by omega) ?_
 refine wp_loop (fun s=>a<s.1∧s.2.Perm l) (fun s=>(b - s.1).toNat) (by simp only;omega) ⟨by simp only;omega,.refl _⟩ (fun s K hI hK=>?_)
 obtain ⟨i,s⟩:=s
 obtain ⟨h1,h2⟩:=hI
 simp only at h1 h2 hK ⊢
 refine zbJ (fun hlt=>?_) (fun _=>zax h2)
 refine wp_loop (fun t=>a≤t.1∧t.1≤i∧t.2.Perm l) (fun t=>(t.1 - a).toNat) (by simp only;omega) ⟨by simp only;omega,by simp only;omega,h2⟩ (fun t K2 hI2 hK2=>?_)
 obtain ⟨j,t⟩:=t
 obtain ⟨g1,g2,g3⟩:=hI2
 simp only at g1 g2 g3 hK2 ⊢
 have hlen:=g3.length_eq
 refine zaw (fun h=>by have:=of_decide_eq_true h;omega) (zaw (fun h=>by unfold inI;omega) (zaw (fun h=>by have:=of_decide_eq_true h;omega) ?_))
 refine zlI (Q:=fun _=>True) (fun h=>?_) (fun y _=>?_)
 · have:=of_decide_eq_true h
   obtain ⟨r,e⟩:=H _ (ziV g3 (i:=j.toNat) (by omega)) _ (ziV g3 (i:=(j - 1).toNat) (by omega))
   exact ⟨r,e,trivial⟩
 refine zcK (fun h=>?_) (fun h=>zai (by omega) (hK _ ⟨by simp only;omega,g3⟩ (by simp only;omega)))
 simp only [Bool.and_eq_true,decide_eq_true_eq] at h
 refine zai (by omega) (zai (by omega) (zaw (by omega) (zaw (by omega) (zaw (by omega) (zaw (by rw [List.length_set];omega) (zai (by omega) ?_))))))
 exact hK2 _ ⟨by simp only;omega,by simp only;omega,swap_perm g3 (by omega) (by omega)⟩ (by simp only;omega)
theorem zfI {fuel:Nat} (hf:1000≤fuel) {l:List Int} (hl:l.length≤100) {c:Int→Int→Option Int} {a b n:Int} (ha:0≤a) (hb:0≤b) (han:a+n≤(l.length:Int)) (hbn:b+n≤(l.length:Int)) :
 Wp (zaQ fuel l a b n c) (fun r=>r.Perm l):=by
 unfold zaQ
 refine wp_loop (fun s=>0≤s.1∧s.2.Perm l) (fun s=>(n - s.1).toNat) (by simp only;omega) ⟨by simp [-List.getD_eq_getElem?_getD],.refl _⟩ (fun s K hI hK=>?_)
 obtain ⟨i,s⟩:=s
 obtain ⟨h1,h2⟩:=hI
 simp only at h1 h2 hK ⊢
 have hlen:=h2.length_eq
 refine zbJ (fun hlt=>?_) (fun _=>zax h2)
 refine zai (by omega) (zai (by omega) (zai (by omega) (zaw (by omega) (zai (by omega) (zaw (by omega) (zaw (by omega) (zaw (by rw [List.length_set];omega) (zai (by omega) ?_))))))))
 exact hK _ ⟨by simp only;omega,swap_perm h2 (by omega) (by omega)⟩ (by simp only;omega)
theorem znU {fuel:Nat} (hf:1000≤fuel) {l:List Int} (hl:l.length≤100) {c:Int→Int→Option Int} {a m b:Int} (ha:0≤a) (ham:a<m) (hmb:m<b) (hb:b≤(l.length:Int)) :
 Wp (za8 fuel l a m b c) (fun r=>r.Perm l):=by
 unfold za8
 refine zai (by omega) (zai (by omega) ?_)
 refine wp_loop (fun s=>1≤s.1∧s.1≤m - a∧1≤s.2.1∧s.2.1≤b - m∧s.2.2.Perm l) (fun s=>(s.1+s.2.1).toNat) (by simp only;omega) ⟨by simp only;omega,by simp only;omega,by simp only;omega,by simp only;omega,.refl _⟩ (fun s K hI hK=>?_)
 obtain ⟨i,j,s⟩:=s
 obtain ⟨h1,h2,h3,h4,h5⟩:=hI
 simp only at h1 h2 h3 h4 h5 hK ⊢
 have hlen:=h5.length_eq
 refine zgG (fun hne=>?_) (fun he=>?_)
 · refine zbJ (fun hlt=>?_) (fun hge=>?_)
   · refine zai (by omega) (wp_bind (zfI hf (by omega) (by omega) (by omega) (by omega) (by omega)) (fun y hy=>zaw hy.length_eq (zai (by omega) (hK _ ⟨by simp only;omega,by simp only;omega,by simp only;omega,by simp only;omega,hy.trans h5⟩ (by simp only;omega)))))
   · refine zai (by omega) (zai (by omega) (zai (by omega) (wp_bind (zfI hf (by omega) (by omega) (by omega) (by omega) (by omega)) (fun y hy=>zaw hy.length_eq (zai (by omega) (hK _ ⟨by simp only;omega,by simp only;omega,by simp only;omega,by simp only;omega,hy.trans h5⟩ (by simp only;omega)))))))
 · exact zai (by omega) (wp_bind (zfI hf (by omega) (by omega) (by omega) (by omega) (by omega)) (fun y hy=>zax (hy.trans h5)))
theorem zfe {fuel:Nat} (hf:1000≤fuel) {c:Int→Int→Option Int}:∀ (n:Nat) {l:List Int},l.length≤100→Cmp l c→∀ {a m b:Int},0≤a→a<m→m<b→b≤(l.length:Int)→(b - a).toNat<n →
 Wp (zaR fuel n l a m b c) (fun r=>r.Perm l)
 | 0,l,_,_,a,m,b,_,_,_,_,hn=>absurd hn (Nat.not_lt_zero _)
 | n+1,l,hl,H,a,m,b,ha,ham,hmb,hb,hn=>by
  show Wp (zaY fuel (zaR fuel n) l a m b c) _
  unfold zaY
  have hc:∀ i j:Int,0≤i→i<(l.length:Int)→0≤j→j<(l.length:Int)→Wp (c (l.getD i.toNat default) (l.getD j.toNat default)) (fun _=>True):=fun i j h1 h2 h3 h4=>by
   obtain ⟨r,e⟩:=H _ (zbR (l:=l) (i:=i.toNat) (by omega)) _ (zbR (l:=l) (i:=j.toNat) (by omega))
   exact ⟨r,e,trivial⟩
  refine zai (by omega) ?_
  refine zbJ (fun e1=>?_) (fun e1=>?_)
  · refine wp_loop (fun s=>m≤s.1∧s.1≤s.2∧s.2≤b) (fun s=>(s.2 - s.1).toNat) (by simp only;omega) ⟨by simp only;omega,by simp only;omega,by simp [-List.getD_eq_getElem?_getD]⟩ (fun s K hI hK=>?_)
    obtain ⟨i,j⟩:=s
    obtain ⟨h1,h2,h3⟩:=hI
    simp only at h1 h2 h3 hK ⊢
    refine zbJ (fun hlt=>?_) (fun hge=>?_)
    · rw [half (by omega)]
      refine zai (by omega) (zaw (by unfold inU;omega) (zai (by omega) (zaw (by omega) (zaw (by omega) (wp_bind (hc _ _ (by omega) (by omega) (by omega) (by omega)) (fun y _=>?_))))))
      refine zbJ (fun _=>zai (by omega) (hK _ ⟨by simp only;omega,by simp only;omega,by simp only;omega⟩ (by simp only;omega))) (fun _=>hK _ ⟨by simp only;omega,by simp only;omega,by simp only;omega⟩ (by simp only;omega))
    · refine wp_loop (fun s=>0≤s.1∧s.2.Perm l) (fun s=>(b - s.1).toNat) (by simp only;omega) ⟨by simp only;omega,.refl _⟩ (fun s K2 hI2 hK2=>?_)
      obtain ⟨k,s⟩:=s
      obtain ⟨g1,g2⟩:=hI2
      simp only at g1 g2 hK2 ⊢
      have hlen:=g2.length_eq
      refine zai (by omega) (zbJ (fun hk=>?_) (fun _=>zax g2))
      refine zai (by omega) (zai (by omega) (zaw (by omega) (zaw (by omega) (zaw (by omega) (zaw (by rw [List.length_set];omega) (zai (by omega) ?_))))))
      exact hK2 _ ⟨by simp only;omega,swap_perm g2 (by omega) (by omega)⟩ (by simp only;omega)
  refine zai (by omega) ?_
  refine zbJ (fun e2=>?_) (fun e2=>?_)
  · refine wp_loop (fun s=>a≤s.1∧s.1≤s.2∧s.2≤m) (fun s=>(s.2 - s.1).toNat) (by simp only;omega) ⟨by simp [-List.getD_eq_getElem?_getD],by simp only;omega,by simp [-List.getD_eq_getElem?_getD]⟩ (fun s K hI hK=>?_)
    obtain ⟨i,j⟩:=s
    obtain ⟨h1,h2,h3⟩:=hI
    simp only at h1 h2 h3 hK ⊢
    refine zbJ (fun hlt=>?_) (fun hge=>?_)
    · rw [half (by omega)]
      refine zai (by omega) (zaw (by unfold inU;omega) (zai (by omega) (zaw (by omega) (zaw (by omega) (wp_bind (hc _ _ (by omega) (by omega) (by omega) (by omega)) (fun y _=>?_))))))
      refine zgG (fun _=>zai (by omega) (hK _ ⟨by simp only;omega,by simp only;omega,by simp only;omega⟩ (by simp only;omega))) (fun _=>hK _ ⟨by simp only;omega,by simp only;omega,by simp only;omega⟩ (by simp only;omega))
    · refine wp_loop (fun s=>s.1≤m∧s.2.Perm l) (fun s=>(s.1 - i).toNat) (by simp only;omega) ⟨by simp [-List.getD_eq_getElem?_getD],.refl _⟩ (fun s K2 hI2 hK2=>?_)
      obtain ⟨k,s⟩:=s
      obtain ⟨g1,g2⟩:=hI2
      simp only at g1 g2 hK2 ⊢
      have hlen:=g2.length_eq
      refine zbJ (fun hk=>?_) (fun _=>zax g2)
      refine zai (by omega) (zai (by omega) (zaw (by omega) (zaw (by omega) (zaw (by omega) (zaw (by rw [List.length_set];omega) (zai (by omega) ?_))))))
      exact hK2 _ ⟨by simp only;omega,swap_perm g2 (by omega) (by omega)⟩ (by simp only;omega)
  rw [half (by omega)]
  refine zai (by omega) (zaw (by unfold inU;omega) (zai (by omega) (zai (by omega) ?_)))
  have hmid:a<(a+b) / 2∧(a+b) / 2<b:=by omega
  generalize hmd:(a+b) / 2=mid at hmid ⊢
  have hm2:2 * mid≤a+b∧a+b≤2 * mid+1:=by omega
  refine zgK (fun s=>a≤s.1∧mid+m - b≤s.1∧s.1≤s.2∧(s.2=mid∧mid<m∨s.2=m∧m≤mid)) (fun K hK=>?_) (fun s hs=>?_)
  · refine zbJ (fun h=>zai (by omega) (hK _ ⟨by simp only;omega,by simp only;omega,by simp only;omega,.inl ⟨rfl,h⟩⟩)) (fun h=>hK _ ⟨by simp [-List.getD_eq_getElem?_getD],by simp only;omega,by simp only;omega,.inr ⟨rfl,by omega⟩⟩)
  obtain ⟨st,r⟩:=s
  obtain ⟨s1,s2,s3,s4⟩:=hs
  simp only at s1 s2 s3 s4 ⊢
  refine zai (by omega) ?_
  refine wp_loop (fun s=>st≤s.1∧s.1≤s.2∧s.2≤r) (fun s=>(s.2 - s.1).toNat) (by simp only;omega) ⟨by simp [-List.getD_eq_getElem?_getD],s3,by simp [-List.getD_eq_getElem?_getD]⟩ (fun s K hI hK=>?_)
  obtain ⟨i,j⟩:=s
  obtain ⟨h1,h2,h3⟩:=hI
  simp only at h1 h2 h3 hK ⊢
  refine zbJ (fun hlt=>?_) (fun hge=>?_)
  · rw [half (by omega)]
    refine zai (by omega) (zaw (by unfold inU;omega) (zai (by omega) (zai (by omega) (zaw (by omega) (zaw (by omega) (wp_bind (hc _ _ (by omega) (by omega) (by omega) (by omega)) (fun y _=>?_)))))))
    refine zgG (fun _=>zai (by omega) (hK _ ⟨by simp only;omega,by simp only;omega,by simp only;omega⟩ (by simp only;omega))) (fun _=>hK _ ⟨by simp only;omega,by simp only;omega,by simp only;omega⟩ (by simp only;omega))
  refine zai (by omega) ?_
  refine zgK (fun s=>s.Perm l) (fun K hK=>?_) (fun s hs=>?_)
  · refine zcK (fun h=>?_) (fun h=>hK _ (.refl _))
    simp only [Bool.and_eq_true,decide_eq_true_eq] at h
    exact wp_bind (znU hf hl (by omega) (by omega) (by omega) (by omega)) (fun y hy=>zaw hy.length_eq (hK _ hy))
  have hsl:=hs.length_eq
  refine zgK (fun s=>s.Perm l) (fun K hK=>?_) (fun t ht=>?_)
  · refine zcK (fun h=>?_) (fun h=>hK _ hs)
    simp only [Bool.and_eq_true,decide_eq_true_eq] at h
    exact wp_bind (zfe hf n (by omega) (H.perm hs) (by omega) (by omega) (by omega) (by omega) (by omega)) (fun y hy=>zaw hy.length_eq (hK _ (hy.trans hs)))
  have htl:=ht.length_eq
  refine zcK (fun h=>?_) (fun h=>zax ht)
  simp only [Bool.and_eq_true,decide_eq_true_eq] at h
  exact wp_bind (zfe hf n (by omega) (H.perm ht) (by omega) (by omega) (by omega) (by omega) (by omega)) (fun y hy=>zax (hy.trans ht))
theorem zj6 {fuel:Nat} (hf:1000≤fuel) {l:List Int} (hl:l.length≤100) {c:Int→Int→Option Int} (H:Cmp l c):Wp (zaG fuel l c) (fun r=>r.Perm l):=by
 unfold zaG
 refine wp_bind (Q:=fun r=>r.Perm l) ?_ (fun y hy=>zax hy)
 unfold zbv
 refine wp_loop (fun s=>0≤s.1∧s.1+20=s.2.1∧s.1≤(l.length:Int)∧s.2.2.Perm l) (fun s=>(200 - s.1).toNat) (by simp only;omega) ⟨by simp [-List.getD_eq_getElem?_getD],by simp [-List.getD_eq_getElem?_getD],by simp only;omega,.refl _⟩ (fun s K hI hK=>?_)
 obtain ⟨i,j,s⟩:=s
 obtain ⟨h1,h2,h3,h4⟩:=hI
 simp only at h1 h2 h3 h4 hK ⊢
 have hlen:=h4.length_eq
 refine zbJ (fun hlt=>?_) (fun hge=>?_)
 · exact wp_bind (zie hf (by omega) (H.perm h4) (by omega) (by omega)) (fun y hy=>zaw hy.length_eq (zai (by omega) (hK _ ⟨by simp only;omega,by simp only,by simp only;omega,hy.trans h4⟩ (by simp only;omega))))
 refine wp_bind (zie hf (by omega) (H.perm h4) (by omega) (by omega)) (fun y hy=>zaw hy.length_eq ?_)
 have hy':=hy.trans h4
 refine wp_loop (fun s=>20≤s.1∧s.1≤200∧s.2.Perm l) (fun s=>(200 - s.1).toNat) (by simp only;omega) ⟨by simp [-List.getD_eq_getElem?_getD],by simp [-List.getD_eq_getElem?_getD],hy'⟩ (fun t K2 hI2 hK2=>?_)
 obtain ⟨bs,t⟩:=t
 obtain ⟨g1,g2,g3⟩:=hI2
 simp only at g1 g2 g3 hK2 ⊢
 refine zbJ (fun hbs=>?_) (fun _=>zax g3)
 refine zai (by omega) ?_
 refine wp_loop (fun s=>0≤s.1∧s.1+2 * bs=s.2.1∧s.1≤(l.length:Int)∧s.2.2.Perm l) (fun s=>(1000 - s.1).toNat - 100) (by simp only;omega) ⟨by simp [-List.getD_eq_getElem?_getD],by simp [-List.getD_eq_getElem?_getD],by simp only;omega,g3⟩ (fun u K3 hI3 hK3=>?_)
 obtain ⟨x,z,u⟩:=u
 obtain ⟨u1,u2,u3,u4⟩:=hI3
 simp only at u1 u2 u3 u4 hK3 ⊢
 have hul:=u4.length_eq
 refine zbJ (fun hz=>?_) (fun hz=>?_)
 · exact zai (by omega) (wp_bind (zfe hf fuel (by omega) (H.perm u4) (by omega) (by omega) (by omega) (by omega) (by omega)) (fun y hy=>zaw hy.length_eq (zai (by omega) (zai (by omega) (hK3 _ ⟨by simp only;omega,by simp only,by simp only;omega,hy.trans u4⟩ (by simp only;omega))))))
 refine zai (by omega) ?_
 refine zgK (fun s=>s.Perm l) (fun K4 hK4=>?_) (fun v hv=>zai (by omega) (hK2 _ ⟨by simp only;omega,by simp only;omega,hv⟩ (by simp only;omega)))
 refine zbJ (fun hx=>?_) (fun hx=>hK4 _ u4)
 exact wp_bind (zfe hf fuel (by omega) (H.perm u4) (by omega) (by omega) (by omega) (by omega) (by omega)) (fun y hy=>zaw hy.length_eq (hK4 _ (hy.trans u4)))
end Go.Sp
end
/- Plain laws, mantle: which mantle a lamp has, by both; which burns tell; ages as sums. No program in sight. -/
section
set_option linter.all false
namespace Go.Sp
open Go.Av
set_option maxRecDepth 100000
def mt (w:Wear) (i:Nat):Mantle:=w.Mantles.getD i default
def bn (w:Wear) (i:Nat):Burn:=w.Burns.getD i default
def Cand (w:Wear) (lamp night known:Int) (j:Nat):Prop:=(mt w j).Lamp=lamp∧(mt w j).Night≤night∧zar (mt w j).Known (mt w j).Until known=true
instance (w:Wear) (lamp night known:Int) (j:Nat):Decidable (Cand w lamp night known j):=inferInstanceAs (Decidable (_∧_∧_))
def fitN (w:Wear) (lamp night known:Int):Nat→Int
 | 0=>-1
 | n+1=>if Cand w lamp night known n∧(fitN w lamp night known n<0∨(mt w (fitN w lamp night known n).toNat).Night≤(mt w n).Night) then (n:Int) else fitN w lamp night known n
def fit (w:Wear) (lamp night known:Int):Int:=fitN w lamp night known w.Mantles.length
structure FitIs (w:Wear) (lamp night known:Int) (n:Nat) (i:Nat):Prop where
 lt:i<n
 cand:Cand w lamp night known i
 top:∀ j,j<n→Cand w lamp night known j→(mt w j).Night≤(mt w i).Night∧(i<j→(mt w j).Night<(mt w i).Night)
theorem zi5 (w:Wear) (lamp night known:Int):∀ n,(fitN w lamp night known n = -1∧∀ j,j<n→¬ Cand w lamp night known j)∨∃ i:Nat,fitN w lamp night known n=(i:Int)∧FitIs w lamp night known n i
 | 0=>.inl ⟨rfl,fun j hj=>absurd hj (Nat.not_lt_zero _)⟩
 | n+1=>by
  unfold fitN
  rcases zi5 w lamp night known n with ⟨e,h⟩|⟨i,e,h⟩
  · rw [e]
    by_cases hc:Cand w lamp night known n
    · rw [if_pos ⟨hc,.inl (by omega)⟩]
      refine .inr ⟨n,rfl,by omega,hc,fun j hj hcj=>?_⟩
      by_cases e:j=n
      · subst e;exact ⟨Int.le_refl _,fun h=>absurd h (Nat.lt_irrefl _)⟩
      · exact absurd hcj (h j (by omega))
    · rw [if_neg (fun h=>hc h.1)]
      refine .inl ⟨rfl,fun j hj=>?_⟩
      by_cases e:j=n
      · rw [e];exact hc
      · exact h j (by omega)
  · rw [e,Int.toNat_natCast]
    by_cases hc:Cand w lamp night known n∧((i:Int)<0∨(mt w i).Night≤(mt w n).Night)
    · rw [if_pos hc]
      have h2:(mt w i).Night≤(mt w n).Night:=hc.2.resolve_left (by omega)
      refine .inr ⟨n,rfl,by omega,hc.1,fun j hj hcj=>?_⟩
      by_cases e:j=n
      · subst e;exact ⟨Int.le_refl _,fun h=>absurd h (Nat.lt_irrefl _)⟩
      · have:=(h.top j (by omega) hcj).1
        exact ⟨by omega,fun h=>by omega⟩
    · rw [if_neg hc]
      refine .inr ⟨i,rfl,by have:=h.lt;omega,h.cand,fun j hj hcj=>?_⟩
      by_cases e:j=n
      · subst e
        have:¬ (mt w i).Night≤(mt w j).Night:=fun h=>hc ⟨hcj,.inr h⟩
        exact ⟨by omega,fun _=>by omega⟩
      · exact h.top j (by omega) hcj
theorem zkt (w:Wear) (lamp night known:Int):(fit w lamp night known = -1∧∀ j,j<w.Mantles.length→¬ Cand w lamp night known j)∨∃ i:Nat,fit w lamp night known=(i:Int)∧FitIs w lamp night known w.Mantles.length i:=zi5 w lamp night known _
theorem FitIs.eq {w:Wear} {lamp night known:Int} {i j:Nat} (h1:FitIs w lamp night known w.Mantles.length i) (h2:FitIs w lamp night known w.Mantles.length j):i=j:=by
 have a:=h1.top j h2.lt h2.cand
 have b:=h2.top i h1.lt h1.cand
 rcases Nat.lt_trichotomy i j with h|h|h
 · have:=a.2 h;omega
 · exact h
 · have:=b.2 h;omega
theorem FitIs.fit {w:Wear} {lamp night known:Int} {i:Nat} (h:FitIs w lamp night known w.Mantles.length i):fit w lamp night known=(i:Int):=by
 rcases zkt w lamp night known with ⟨e,h2⟩|⟨j,e,h2⟩
 · exact absurd h.cand (h2 i h.lt)
 · rw [e,h2.eq h]
theorem zp2 {w:Wear} {lamp night known:Int} {i:Nat} (h:Go.Sp.fit w lamp night known=(i:Int)):FitIs w lamp night known w.Mantles.length i:=by
 rcases zkt w lamp night known with ⟨e,h2⟩|⟨j,e,h2⟩
 · omega
 · have:i=j:=by omega
   subst this;exact h2
theorem zm1 (w:Wear) (lamp night known:Int) : -1≤fit w lamp night known∧fit w lamp night known<(w.Mantles.length:Int):=by
 rcases zkt w lamp night known with ⟨e,_⟩|⟨j,e,h⟩
 · omega
 · have:=h.lt;omega
theorem FitIs.earlier {w:Wear} {lamp night known night':Int} {i:Nat} (h:FitIs w lamp night known w.Mantles.length i) (h1:(mt w i).Night≤night') (h2:night'≤night):FitIs w lamp night' known w.Mantles.length i:=
 ⟨h.lt,⟨h.cand.1,h1,h.cand.2.2⟩,fun j hj hc=>h.top j hj ⟨hc.1,by have:=hc.2.1;omega,hc.2.2⟩⟩
theorem zhi (w:Wear) (lamp night known:Int):zbQ w lamp night known=some (fit w lamp night known):=by
 unfold zbQ
 refine Wp.eq (zdU (fun i s=>s=fitN w lamp night known i) rfl (fun i s K hi hI hK=>?_) (fun s hs=>zax hs))
 have hs:=zi5 w lamp night known i
 rw [← hI] at hs
 refine zaw (fun h=>?_) ?_
 · simp only [Bool.and_eq_true,Bool.not_eq_true',decide_eq_false_iff_not] at h
   rcases hs with ⟨e,_⟩|⟨j,e,hj⟩
   · omega
   · have:=hj.lt;omega
 have e:((((decide ((w.Mantles.getD i default).Lamp=lamp)) && (decide ((w.Mantles.getD i default).Night≤night))) && (zar ((w.Mantles.getD i default).Known) ((w.Mantles.getD i default).Until) known)) && ((decide (s<0)) || (decide ((w.Mantles.getD (s).toNat default).Night≤(w.Mantles.getD i default).Night))))=decide (Cand w lamp night known i∧(s<0∨(mt w s.toNat).Night≤(mt w i).Night)):=by
  rw [Bool.eq_iff_iff]
  simp only [Bool.and_eq_true,Bool.or_eq_true,decide_eq_true_eq,Cand,mt,and_assoc]
 rw [e]
 refine zbJ (fun h=>hK _ ?_) (fun h=>hK _ ?_)
 · subst hI;unfold fitN;rw [if_pos h]
 · subst hI;conv=>rhs;unfold fitN
   rw [if_neg h]
def zoK:Mantle:=⟨0,0,0,0,0,0⟩
def atR (w:Wear) (lamp night known:Int):Mantle×Bool:=if fit w lamp night known<0 then (zoK,false) else (mt w (fit w lamp night known).toNat,true)
theorem rcounts (a b c:Int):zaI a b c=zar a b c:=rfl
theorem at_eq {w:Wear} {fuel:Nat} (hf:w.Mantles.length<fuel) (hn:w.Mantles.length≤60) (lamp night known:Int):zbO fuel w lamp night known=some (atR w lamp night known):=by
 unfold zbO
 refine Wp.eq ?_
 refine wp_loop (fun s=>∃ i:Nat,s.2.1=(i:Int)∧i≤w.Mantles.length∧s.1 = !decide (fitN w lamp night known i<0)∧s.2.2=if fitN w lamp night known i<0 then zoK else mt w (fitN w lamp night known i).toNat) (fun s=>w.Mantles.length - s.2.1.toNat) (by simp [-List.getD_eq_getElem?_getD];omega) ⟨0,rfl,Nat.zero_le _,rfl,rfl⟩ (fun s K hI hK=>?_)
 obtain ⟨b,x,m⟩:=s
 obtain ⟨i,h1,h2,h3,h4⟩:=hI
 simp only at h1 h2 h3 h4 hK ⊢
 subst h1
 by_cases hin:i<w.Mantles.length
 · refine zcA (by simp [-List.getD_eq_getElem?_getD];omega) (zaw (by omega) ?_)
   simp only [Int.toNat_natCast] at hK ⊢
   have e:((((decide ((w.Mantles.getD i default).Lamp=lamp)) && (decide ((w.Mantles.getD i default).Night≤night))) && (zaI ((w.Mantles.getD i default).Known) ((w.Mantles.getD i default).Until) known)) && ((!b) || (decide (m.Night≤(w.Mantles.getD i default).Night))))=decide (Cand w lamp night known i∧(fitN w lamp night known i<0∨(mt w (fitN w lamp night known i).toNat).Night≤(mt w i).Night)):=by
    rw [Bool.eq_iff_iff,h3,h4]
    by_cases hc:fitN w lamp night known i<0
    · simp only [hc,Bool.and_eq_true,Bool.or_eq_true,decide_eq_true_eq,Cand,mt,and_assoc,rcounts];simp [-List.getD_eq_getElem?_getD]
    · simp only [hc,Bool.and_eq_true,Bool.or_eq_true,decide_eq_true_eq,Cand,mt,and_assoc,rcounts];simp [-List.getD_eq_getElem?_getD]
   rw [e]
   refine zbJ (fun h=>zai (by omega) (hK _ ⟨i+1,by simp [-List.getD_eq_getElem?_getD],by omega,?_,?_⟩ (by simp only;omega))) (fun h=>zai (by omega) (hK _ ⟨i+1,by simp [-List.getD_eq_getElem?_getD],by omega,?_,?_⟩ (by simp only;omega)))
   · simp only;unfold fitN;rw [if_pos h];simp [-List.getD_eq_getElem?_getD]
   · simp only;unfold fitN;rw [if_pos h,if_neg (by omega)];simp [-List.getD_eq_getElem?_getD,mt]
   · simp only;unfold fitN;rw [if_neg h];exact h3
   · simp only;unfold fitN;rw [if_neg h];exact h4
 · have:i=w.Mantles.length:=by omega
   subst this
   refine za2 (by simp [-List.getD_eq_getElem?_getD]) (zax ?_)
   unfold atR fit
   rw [h3,h4]
   by_cases hc:fitN w lamp night known w.Mantles.length<0
   · simp [-List.getD_eq_getElem?_getD,hc]
   · simp [-List.getD_eq_getElem?_getD,hc]
def tell (w:Wear) (known:Int) (i:Nat):Bool:=decide (0≤fit w (bn w i).Lamp (bn w i).Night known) && zar (bn w i).Known (bn w i).Until known &&
 decide (∀ k,k<w.Burns.length→i<k→¬ ((bn w k).Lamp=(bn w i).Lamp∧(bn w k).Night=(bn w i).Night∧zar (bn w k).Known (bn w k).Until known=true))
def za4 (P:Nat→Bool) (f:Nat→Int):Nat→Int
 | 0=>0
 | n+1=>za4 P f n+(if P n=true then f n else 0)
theorem zd1 {P Q:Nat→Bool} {f:Nat→Int}:∀ {n:Nat},(∀ i,i<n→P i=Q i)→za4 P f n=za4 Q f n
 | 0,_=>rfl
 | n+1,h=>by unfold za4;rw [zd1 (fun i hi=>h i (by omega)),h n (by omega)]
theorem zfJ {P Q:Nat→Bool} {f:Nat→Int}:∀ {n:Nat},(∀ i,i<n→0≤f i)→(∀ i,i<n→P i=true→Q i=true)→za4 P f n≤za4 Q f n
 | 0,_,_=>Int.le_refl _
 | n+1,h0,h=>by
  unfold za4
  have h1:=zfJ (fun i hi=>h0 i (by omega)) (fun i hi=>h i (by omega)) (P:=P) (Q:=Q) (f:=f) (n:=n)
  have h2:=h0 n (by omega)
  by_cases hp:P n=true
  · rw [if_pos hp,if_pos (h n (by omega) hp)];omega
  · rw [if_neg hp];split <;> omega
theorem zd2 {P:Nat→Bool} {f:Nat→Int} {c:Int} (hc:0≤c):∀ {n:Nat},(∀ i,i<n→0≤f i∧f i≤c)→0≤za4 P f n∧za4 P f n≤(n:Int) * c
 | 0,_=>by simp [-List.getD_eq_getElem?_getD,za4]
 | n+1,h=>by
  unfold za4
  have h1:=zd2 hc (fun i hi=>h i (by omega)) (P:=P) (f:=f) (n:=n)
  have h2:=h n (by omega)
  have:((n+1:Nat):Int) * c=(n:Int) * c+c:=by rw [Int.natCast_add,Int.add_mul];simp [-List.getD_eq_getElem?_getD]
  rw [this]
  split <;> omega
theorem zgM {P:Nat→Bool} {f g:Nat→Int}:∀ {n:Nat},(∀ i,i<n→P i=true→f i≤g i)→za4 P f n≤za4 P g n
 | 0,_=>Int.le_refl _
 | n+1,h=>by
  unfold za4
  have h1:=zgM (fun i hi=>h i (by omega)) (P:=P) (f:=f) (g:=g) (n:=n)
  by_cases hp:P n=true
  · rw [if_pos hp,if_pos hp];have:=h n (by omega) hp;omega
  · rw [if_neg hp,if_neg hp];omega
theorem zjC {P Q R:Nat→Bool} {f:Nat→Int}:∀ {n:Nat},(∀ i,i<n→R i=(P i || Q i))→(∀ i,i<n→¬ (P i=true∧Q i=true))→za4 R f n=za4 P f n+za4 Q f n
 | 0,_,_=>rfl
 | n+1,h1,h2=>by
  unfold za4
  rw [zjC (fun i hi=>h1 i (by omega)) (fun i hi=>h2 i (by omega)),h1 n (by omega)]
  have:=h2 n (by omega)
  cases hp:P n <;> cases hq:Q n <;> simp_all [-List.getD_eq_getElem?_getD] <;> omega
def zhg (w:Wear) (known m from_ to:Int) (i:Nat):Bool:=tell w known i && decide (fit w (bn w i).Lamp (bn w i).Night known=m) && (decide (from_<(bn w i).Night) && decide ((bn w i).Night≤to))
def zio (w:Wear) (known m from_ to:Int):Int:=za4 (zhg w known m from_ to) (fun i=>(bn w i).Minutes.Lo) w.Burns.length
def zfz (w:Wear) (known m from_ to:Int):Int:=za4 (zhg w known m from_ to) (fun i=>(bn w i).Minutes.Hi) w.Burns.length
end Go.Sp
end
/- Plain laws, mantle: which burns tell, ages, by both; the burns of each mantle. No program in sight. -/
section
set_option linter.all false
namespace Go.Sp
open Go.Av
set_option maxRecDepth 100000
theorem zeP {T:Type} [Inhabited T] {p:T→Option Bool} {q:T→Bool} (hp:∀ x,p x=some (q x)) (l:List T) :
 (zao (zau (fun i1 (s1:Unit) k1=>zao (p (l.getD i1 default)) fun y3=>(bif y3 then some (i1:Int) else k1 ())) (fun (s1:Unit)=>some (-1)) l.length 0 ():Option Int) fun y1=>some (decide (0≤y1)))=some (l.any q):=by
 rw [zfW hp l]
 show some _=some _
 congr 1
 cases h:l.findIdx? q with
 | none=>
  rw [List.findIdx?_eq_none_iff] at h
  have:l.any q=false:=by rw [List.any_eq_false];intro x hx;simp [-List.getD_eq_getElem?_getD,h x hx]
  rw [this];rfl
 | some i=>
  rw [List.findIdx?_eq_some_iff_getElem] at h
  obtain ⟨h1,h2,_⟩:=h
  have:l.any q=true:=List.any_eq_true.2 ⟨_,List.getElem_mem h1,h2⟩
  rw [this];simp [-List.getD_eq_getElem?_getD]
def zjM (w:Wear) (known:Int) (i k:Nat):Prop:=(bn w k).Lamp=(bn w i).Lamp∧(bn w k).Night=(bn w i).Night∧zar (bn w k).Known (bn w k).Until known=true
theorem zmt {w:Wear} {known:Int} {i:Nat}:tell w known i=true↔0≤fit w (bn w i).Lamp (bn w i).Night known∧zar (bn w i).Known (bn w i).Until known=true∧∀ k,k<w.Burns.length→i<k→¬ zjM w known i k:=by
 simp only [tell,Bool.and_eq_true,decide_eq_true_eq,and_assoc,zjM]
theorem zpK {w:Wear} {known:Int} {i:Nat}:(w.Burns.drop (i+1)).any (fun x0=>zbl x0 (bn w i) known)=true↔∃ k,k<w.Burns.length∧i<k∧zjM w known i k:=by
 rw [List.any_eq_true]
 constructor
 · rintro ⟨x,hx,h⟩
   obtain ⟨j,hj,rfl⟩:=zc3 hx
   rw [List.length_drop] at hj
   rw [getD_drop] at h
   refine ⟨i+1+j,by omega,by omega,?_⟩
   simp only [zbl,Bool.and_eq_true,decide_eq_true_eq,and_assoc] at h
   exact h
 · rintro ⟨k,hk,hik,h⟩
   refine ⟨bn w k,?_,by simp only [zbl,Bool.and_eq_true,decide_eq_true_eq,and_assoc];exact h⟩
   have:(w.Burns.drop (i+1)).getD (k - (i+1)) default=bn w k:=by rw [getD_drop];unfold bn;congr 1;omega
   rw [← this]
   exact zbR (by rw [List.length_drop];omega)
theorem znd {w:Wear} (V:WearOk w) {fuel:Nat} (hf:100<fuel) (known:Int):zbH fuel w known=some ((List.range w.Burns.length).map (tell w known)):=by
 have nu:=V.nu;have nm:=V.nm
 unfold zbH
 refine Wp.eq ?_
 refine zjx w.Burns.length (by omega) (fun i (s:List Bool)=>s=(List.range i).map (tell w known)) rfl (fun i s K hi hI hK=>?_)
 subst hI
 by_cases hin:i<w.Burns.length
 · refine zcA (by simp [-List.getD_eq_getElem?_getD];omega) (zaw (by simp only;omega) ?_)
   simp only [Int.toNat_natCast]
   refine zaz (at_eq (by omega) nm _ _ known) (zai (by omega) ?_)
   refine wp_loop (fun s=>∃ k:Nat,s.1=(k:Int)∧i+1≤k∧k≤w.Burns.length∧(s.2=true↔0≤fit w (bn w i).Lamp (bn w i).Night known∧zar (bn w i).Known (bn w i).Until known=true∧∀ j,j<k→i<j→¬ zjM w known i j)) (fun s=>w.Burns.length - s.1.toNat) (by simp only;omega)
    ⟨i+1,by simp [-List.getD_eq_getElem?_getD],Nat.le_refl _,hin,?_⟩ (fun s K2 hI2 hK2=>?_)
   · show (_ && _)=true↔_
     have e:(atR w (w.Burns.getD i default).Lamp (w.Burns.getD i default).Night known).2=decide (0≤fit w (bn w i).Lamp (bn w i).Night known):=by
      unfold atR bn
      by_cases h:fit w (w.Burns.getD i default).Lamp (w.Burns.getD i default).Night known<0
      · rw [if_pos h];simp [-List.getD_eq_getElem?_getD];omega
      · rw [if_neg h];simp [-List.getD_eq_getElem?_getD];omega
     rw [e,Bool.and_eq_true,decide_eq_true_eq]
     exact ⟨fun h=>⟨h.1,h.2,fun j hj hij=>by omega⟩,fun h=>⟨h.1,h.2.1⟩⟩
   obtain ⟨x,b⟩:=s
   obtain ⟨k,h1,h2,h3,h4⟩:=hI2
   simp only at h1 h4 hK2 ⊢
   subst h1
   by_cases hk:k<w.Burns.length
   · refine zcA (by simp [-List.getD_eq_getElem?_getD];omega) (zaw (by omega) (zai (by omega) (hK2 _ ⟨k+1,by simp [-List.getD_eq_getElem?_getD],by omega,by omega,?_⟩ (by simp only;omega))))
     simp only [Int.toNat_natCast,Bool.and_eq_true,h4]
     have e:(((!decide ((w.Burns.getD k default).Lamp=(w.Burns.getD i default).Lamp)) || (!decide ((w.Burns.getD k default).Night=(w.Burns.getD i default).Night))) || (!(zaI ((w.Burns.getD k default).Known) ((w.Burns.getD k default).Until) known)))=true↔¬ zjM w known i k:=by
      simp only [Bool.or_eq_true,Bool.not_eq_true',decide_eq_false_iff_not,zjM,bn,rcounts]
      constructor
      · rintro ((h|h)|h) ⟨h1,h2,h3⟩
        · exact h h1
        · exact h h2
        · rw [h] at h3;cases h3
      · intro h
        by_cases h1:(w.Burns.getD k default).Lamp=(w.Burns.getD i default).Lamp
        · by_cases h2:(w.Burns.getD k default).Night=(w.Burns.getD i default).Night
          · refine .inr ?_
            cases h3:zar (w.Burns.getD k default).Known (w.Burns.getD k default).Until known with
            | false=>rfl
            | true=>exact absurd ⟨h1,h2,h3⟩ h
          · exact .inl (.inr h2)
        · exact .inl (.inl h1)
     rw [e]
     constructor
     · rintro ⟨⟨a1,a2,a3⟩,a4⟩
       refine ⟨a1,a2,fun j hj hij=>?_⟩
       by_cases e:j=k
       · rw [e];exact a4
       · exact a3 j (by omega) hij
     · rintro ⟨a1,a2,a3⟩
       exact ⟨⟨a1,a2,fun j hj hij=>a3 j (by omega) hij⟩,a3 k (by omega) (by omega)⟩
   · have:k=w.Burns.length:=by omega
     subst this
     refine za2 (by simp [-List.getD_eq_getElem?_getD]) (zb2 (by simp [-List.getD_eq_getElem?_getD];omega) (zai (by omega) (hK _ hin ?_)))
     rw [List.range_succ,List.map_append]
     congr 1
     simp only [List.map_cons,List.map_nil]
     congr 1
     rw [Bool.eq_iff_iff,h4,zmt]
 · have:i=w.Burns.length:=by omega
   subst this
   exact za2 (by simp [-List.getD_eq_getElem?_getD]) (zax rfl)
theorem zly {w:Wear} (V:WearOk w) {i:Nat} (hi:i<w.Burns.length):BurnOk (bn w i):=(V.bu i hi).1
theorem sum60 {w:Wear} (V:WearOk w) (P:Nat→Bool) {n:Nat} (hn:n≤w.Burns.length):(0≤za4 P (fun i=>(bn w i).Minutes.Lo) n∧za4 P (fun i=>(bn w i).Minutes.Lo) n≤86400)∧(0≤za4 P (fun i=>(bn w i).Minutes.Hi) n∧za4 P (fun i=>(bn w i).Minutes.Hi) n≤86400):=by
 have nu:=V.nu
 have h1:=zd2 (P:=P) (f:=fun i=>(bn w i).Minutes.Lo) (c:=1440) (by decide) (n:=n) (fun i hi=>by have:=(zly V (i:=i) (by omega)).min;omega)
 have h2:=zd2 (P:=P) (f:=fun i=>(bn w i).Minutes.Hi) (c:=1440) (by decide) (n:=n) (fun i hi=>by have:=(zly V (i:=i) (by omega)).min;omega)
 have:(n:Int) * 1440≤86400:=by omega
 omega
def zoo (w:Wear) (known:Int) (m:Mantle) (night:Int) (i:Nat):Bool:=tell w known i && decide ((bn w i).Lamp=m.Lamp) && zaE (bn w i).Night m.Night night
theorem zpt {w:Wear} (V:WearOk w) {known lamp night:Int} {m:Nat} (h:FitIs w lamp night known w.Mantles.length m) {i:Nat} (hi:i<w.Burns.length):zoo w known (mt w m) night i=zhg w known (m:Int) (-1) night i:=by
 rw [Bool.eq_iff_iff]
 unfold zoo zhg zaE
 simp only [Bool.and_eq_true,decide_eq_true_eq]
 have hb:=(zly V hi).told.night
 constructor
 · rintro ⟨⟨h1,h2⟩,h3,h4⟩
   refine ⟨⟨h1,?_⟩,by omega,h4⟩
   rw [h2,h.cand.1]
   exact (h.earlier h3 h4).fit
 · rintro ⟨⟨h1,h2⟩,h3,h4⟩
   have h5:=zp2 h2
   exact ⟨⟨h1,h5.cand.1.symm⟩,h5.cand.2.1,h4⟩
def zhX (w:Wear) (known m:Int) (n:Nat):List Int:=((List.range n).filter (fun i=>tell w known i && decide (fit w (bn w i).Lamp (bn w i).Night known=m))).map (fun i:Nat=>(i:Int))
theorem zjT {w:Wear} {known m:Int} {n:Nat}:zhX w known m (n+1)=if tell w known n=true∧fit w (bn w n).Lamp (bn w n).Night known=m then zhX w known m n++[(n:Int)] else zhX w known m n:=by
 unfold zhX
 rw [List.range_succ,List.filter_append,List.map_append]
 by_cases h:tell w known n=true∧fit w (bn w n).Lamp (bn w n).Night known=m
 · rw [if_pos h]
   simp [-List.getD_eq_getElem?_getD,h]
 · rw [if_neg h]
   have:(tell w known n && decide (fit w (bn w n).Lamp (bn w n).Night known=m))=false:=by
    rw [Bool.and_eq_false_iff,decide_eq_false_iff_not]
    by_cases h1:tell w known n=true
    · exact .inr (fun h2=>h ⟨h1,h2⟩)
    · exact .inl (by simpa [-List.getD_eq_getElem?_getD] using h1)
   simp [-List.getD_eq_getElem?_getD,this]
theorem zht {w:Wear} {known m:Int} {n:Nat} {x:Int} (h:x∈zhX w known m n):0≤x∧x<(n:Int):=by
 unfold zhX at h
 rw [List.mem_map] at h
 obtain ⟨i,hi,rfl⟩:=h
 have:=List.mem_range.1 (List.mem_filter.1 hi).1
 omega
theorem zji (w:Wear) (known m:Int) (n:Nat):(zhX w known m n).length≤n:=by
 unfold zhX
 rw [List.length_map]
 exact Nat.le_trans (List.length_filter_le _ _) (by simp [-List.getD_eq_getElem?_getD])
theorem Mp.zph {T:Type}:(Mp.empty:Mp T).ok:=⟨List.nodup_nil,rfl,fun k hk=>by cases hk⟩
theorem Mp.ok_set {T:Type} {m:Mp T} (h:m.ok) (hd:∀ k,(m.get k).isSome=true→k∈m.keys) (q:Int) (x:T):(m.set q x).ok∧∀ k,((m.set q x).get k).isSome=true→k∈(m.set q x).keys:=by
 obtain ⟨h1,h2,h3⟩:=h
 unfold Mp.set Mp.ok
 by_cases hq:(m.get q).isSome=true
 · simp only [hq,if_true]
   refine ⟨⟨h1,h2,fun k hk=>?_⟩,fun k hk=>?_⟩
   · by_cases e:k=q
     · rw [if_pos e];rfl
     · rw [if_neg e];exact h3 k hk
   · by_cases e:k=q
     · rw [e];exact hd q hq
     · rw [if_neg e] at hk;exact hd k hk
 · simp only [hq]
   have hnq:q ∉ m.keys:=fun h=>hq (h3 q h)
   refine ⟨⟨?_,by simp [-List.getD_eq_getElem?_getD,h2],fun k hk=>?_⟩,fun k hk=>?_⟩
   · show (m.keys++[q]).Nodup
     rw [List.nodup_append]
     exact ⟨h1,by simp [-List.getD_eq_getElem?_getD],fun a ha b hb=>by
      rw [List.mem_singleton] at hb
      subst hb
      exact fun e=>hnq (e▸ha)⟩
   · by_cases e:k=q
     · rw [if_pos e];rfl
     · rw [if_neg e]
       have:k∈m.keys++[q]:=hk
       rw [List.mem_append,List.mem_singleton] at this
       exact h3 k (this.resolve_right e)
   · show k∈m.keys++[q]
     rw [List.mem_append,List.mem_singleton]
     by_cases e:k=q
     · exact .inr e
     · rw [if_neg e] at hk;exact .inl (hd k hk)
theorem zpO {w:Wear} (V:WearOk w) {fuel:Nat} (hf:1000≤fuel) (known:Int):Wp (zd8 fuel w known) (fun mp=>∀ m,((mp.get m).getD default).Perm (zhX w known m w.Burns.length)):=by
 have nu:=V.nu
 unfold zd8
 refine zdU (fun i s=>(s.ok∧∀ k,(s.get k).isSome=true→k∈s.keys)∧∀ m,(s.get m).getD []=zhX w known m i) ⟨⟨Mp.zph,fun k hk=>by cases hk⟩,fun m=>rfl⟩ (fun i s K hi hI hK=>?_) (fun s hs=>?_)
 · obtain ⟨⟨h1,h2⟩,h3⟩:=hI
   refine zaz (zhi w _ _ known) (zaw (fun _=>by omega) ?_)
   refine zlI (Q:=fun y=>y=(w.Burns.drop (i+1)).any (fun x0=>zbl x0 (bn w i) known)) (fun _=>?_) (fun y6 h6=>?_)
   · have e:(((i:Int)+1)).toNat=i+1:=by omega
     rw [e]
     exact ⟨_,zeP (q:=fun x0=>zbl x0 (bn w i) known) (fun x=>rfl) _,rfl⟩
   have e:(((decide (0≤fit w (w.Burns.getD i default).Lamp (w.Burns.getD i default).Night known)) && (zar ((w.Burns.getD i default).Known) ((w.Burns.getD i default).Until) known)) && (!y6))=tell w known i:=by
    rw [Bool.eq_iff_iff,zmt]
    simp only [Bool.and_eq_true,Bool.not_eq_true',decide_eq_true_eq,and_assoc,bn]
    refine and_congr_right (fun a1=>and_congr_right (fun a2=>?_))
    have h7:=h6 (by simp only [Bool.and_eq_true,decide_eq_true_eq];exact ⟨a1,a2⟩)
    rw [h7,← Bool.not_eq_true,zpK]
    exact ⟨fun h k hk hik hl=>h ⟨k,hk,hik,hl⟩,fun h ⟨k,hk,hik,hl⟩=>h k hk hik hl⟩
   rw [e]
   have hlen:=zji w known (fit w (w.Burns.getD i default).Lamp (w.Burns.getD i default).Night known) i
   refine zcK (fun ht=>zb2 (by rw [h3];simp [-List.getD_eq_getElem?_getD];omega) (hK _ ⟨Mp.ok_set h1 h2 _ _,fun m=>?_⟩)) (fun ht=>hK _ ⟨⟨h1,h2⟩,fun m=>?_⟩)
   · rw [h3]
     show (if m=_ then some _ else s.get m).getD []=_
     rw [zjT]
     by_cases e1:m=fit w (bn w i).Lamp (bn w i).Night known
     · have e2:tell w known i=true∧fit w (bn w i).Lamp (bn w i).Night known=m:=⟨ht,e1.symm⟩
       rw [if_pos e2,e1]
       exact congrArg (fun z=>Option.getD z []) (if_pos rfl)
     · have e2:¬ (tell w known i=true∧fit w (bn w i).Lamp (bn w i).Night known=m):=fun h=>e1 h.2.symm
       rw [if_neg e2,← h3 m]
       exact congrArg (fun z=>Option.getD z []) (if_neg e1)
   · rw [zjT,if_neg (fun h=>by rw [ht] at h;cases h.1),h3]
 · obtain ⟨⟨h1,h2⟩,h3⟩:=hs
   refine zaw h1 ?_
   have hsort:∀ m,Wp (zaG fuel ((s.get m).getD []) (fun x0 x1=>zbE x0 x1 w)) (fun r=>r.Perm ((s.get m).getD [])):=fun m=>by
    have hl:=zji w known m w.Burns.length
    refine zj6 hf (by rw [h3];omega) (fun a ha b hb=>?_)
    rw [h3] at ha hb
    have a1:=zht ha
    have b1:=zht hb
    unfold zbE
    rw [zdW a1,zdW b1]
    exact ⟨_,rfl⟩
   have hrow:∀ m,Wp (zao (zaG fuel ((s.get m).getD []) (fun x0 x1=>zbE x0 x1 w)) fun y13=>must (y13.length=((s.get m).getD []).length) (some y13)) (fun r=>r.Perm ((s.get m).getD [])):=fun m=>wp_bind (hsort m) (fun y hy=>zaw hy.length_eq (zax hy))
   refine wp_bind (Q:=fun y=>∀ m,((y.get m).getD default).Perm (zhX w known m w.Burns.length)) ?_ (fun y hy=>zax hy)
   unfold Mp.zmO
   have hall:s.keys.all (fun k=>((fun (l11:List Int)=>zao (zaG fuel l11 (fun x0 x1=>zbE x0 x1 w)) fun y13=>must (y13.length=l11.length) (some y13)) ((s.get k).getD default)).isSome)=true:=by
    rw [List.all_eq_true]
    intro k _
    obtain ⟨r,e,_⟩:=hrow k
    show (zao (zaG fuel ((s.get k).getD []) (fun x0 x1=>zbE x0 x1 w)) fun y13=>must (y13.length=((s.get k).getD []).length) (some y13)).isSome=true
    rw [e];rfl
   rw [hall]
   refine zax (fun m=>?_)
   rw [← h3]
   obtain ⟨r,e,hr⟩:=hrow m
   cases hm:s.get m with
   | none=>simp only [hm];exact .refl _
   | some l=>
    rw [hm] at e hr
    simp only [Option.getD_some,hm] at e hr ⊢
    rw [e];exact hr
end Go.Sp
end
/- Plain laws, mantle: the closet: which lives each batch may have. No program in sight. -/
section
set_option linter.all false
namespace Go.Sp
open Go.Av
set_option maxRecDepth 100000
def lsum (g:Int→Int):List Int→Int
 | []=>0
 | x::l=>g x+lsum g l
theorem zog {g:Int→Int} {l r:List Int} (h:l.Perm r):lsum g l=lsum g r:=by
 induction h with
 | nil=>rfl
 | cons x _ ih=>unfold lsum;rw [ih]
 | swap x y l=>unfold lsum;unfold lsum;omega
 | trans _ _ h1 h2=>rw [h1,h2]
theorem zfU {g:Int→Int} (l:List Int) (x:Int):lsum g (l++[x])=lsum g l+g x:=by
 induction l with
 | nil=>simp [-List.getD_eq_getElem?_getD,lsum]
 | cons y l ih=>rw [List.cons_append];unfold lsum;rw [ih];omega
theorem zjL {g:Int→Int} {c:Int} (hc:0≤c):∀ {l:List Int},(∀ x∈l,0≤g x∧g x≤c)→0≤lsum g l∧lsum g l≤(l.length:Int) * c
 | [],_=>by simp [-List.getD_eq_getElem?_getD,lsum]
 | x::l,h=>by
  unfold lsum
  have h1:=zjL hc (fun y hy=>h y (List.mem_cons_of_mem _ hy)) (g:=g) (l:=l)
  have h2:=h x (List.mem_cons_self ..)
  have:((x::l).length:Int) * c=(l.length:Int) * c+c:=by rw [List.length_cons,Int.natCast_add,Int.add_mul];simp [-List.getD_eq_getElem?_getD]
  rw [this];omega
theorem zjK {P:Nat→Bool} {g:Int→Int}:∀ {n:Nat},lsum g (((List.range n).filter P).map (fun i:Nat=>(i:Int)))=za4 P (fun i=>g i) n
 | 0=>rfl
 | n+1=>by
  rw [List.range_succ,List.filter_append,List.map_append]
  unfold za4
  rw [← zjK]
  by_cases h:P n=true
  · rw [if_pos h]
    have:(List.filter P [n]).map (fun i:Nat=>(i:Int))=[(n:Int)]:=by simp [-List.getD_eq_getElem?_getD,h]
    rw [this,zfU]
  · rw [if_neg h]
    have:(List.filter P [n]).map (fun i:Nat=>(i:Int))=[]:=by simp [-List.getD_eq_getElem?_getD,h]
    rw [this,List.append_nil,Int.add_zero]
theorem zjB {P Q:Nat→Bool} {f:Nat→Int}:∀ {n:Nat},za4 P (fun i=>if Q i=true then f i else 0) n=za4 (fun i=>P i && Q i) f n
 | 0=>rfl
 | n+1=>by
  unfold za4
  rw [zjB]
  cases hp:P n <;> cases hq:Q n <;> simp [-List.getD_eq_getElem?_getD]
structure CoatOk (w:Wear) (known:Int) (m:Nat) (S:List mantle_sight) (c:mantle_coat):Prop where
 wear:c.w=w
 burns:c.burns.Perm (zhX w known m w.Burns.length)
 sights:c.sights=S
theorem zey {T:Type} [Inhabited T] {l:List T} {i:Nat} (h:i<l.length):l.take (i+1)=l.take i++[l.getD i default]:=by
 rw [List.take_add_one,List.getElem?_eq_getElem h,List.getD_eq_getElem?_getD,List.getElem?_eq_getElem h];rfl
theorem zmp {w:Wear} (V:WearOk w) {known:Int} {m:Nat} {S:List mantle_sight} {c:mantle_coat} (hc:CoatOk w known m S c) (f t:Int):zbh c f t=some ⟨zio w known m f t,zfz w known m f t⟩:=by
 have nu:=V.nu
 unfold zbh
 rw [hc.wear]
 have hlen:c.burns.length≤60:=by have:=hc.burns.length_eq;have:=zji w known m w.Burns.length;omega
 have hin:∀ i,i<c.burns.length→0≤c.burns.getD i default∧c.burns.getD i default<(w.Burns.length:Int):=fun i hi=>zht (hc.burns.mem_iff.1 (zbR hi))
 let g:(Burn→Int)→Int→Int:=fun F x=>if f<(bn w x.toNat).Night∧(bn w x.toNat).Night≤t then F (bn w x.toNat) else 0
 have hL:∀ F,(∀ b,BurnOk b→0≤F b∧F b≤1440)→∀ i,0≤lsum (g F) (c.burns.take i)∧lsum (g F) (c.burns.take i)≤86400:=fun F hF i=>by
  have:=zjL (g:=g F) (c:=1440) (by decide) (l:=c.burns.take i) (fun x hx=>by
   have hx':=zht (hc.burns.mem_iff.1 (List.mem_of_mem_take hx))
   have:=hF _ (zly V (i:=x.toNat) (by omega))
   simp only [g]
   split <;> omega)
  have h2:(c.burns.take i).length≤60:=by rw [List.length_take];omega
  omega
 have hlo:∀ b,BurnOk b→0≤b.Minutes.Lo∧b.Minutes.Lo≤1440:=fun b hb=>by have:=hb.min;omega
 have hhi:∀ b,BurnOk b→0≤b.Minutes.Hi∧b.Minutes.Hi≤1440:=fun b hb=>by have:=hb.min;omega
 refine Wp.eq (zdU (fun i s=>s=⟨lsum (g (·.Minutes.Lo)) (c.burns.take i),lsum (g (·.Minutes.Hi)) (c.burns.take i)⟩) rfl (fun i s K hi hI hK=>?_) (fun s hs=>zax ?_))
 · subst hI
   have a:=hin i hi
   have b1:=hL _ hlo i
   have b2:=hL _ hhi i
   have hb:=(zly V (i:=(c.burns.getD i default).toNat) (by omega)).min
   refine zaw a ?_
   have e:((decide (f<(w.Burns.getD ((c.burns.getD i default)).toNat default).Night)) && (decide ((w.Burns.getD ((c.burns.getD i default)).toNat default).Night≤t)))=decide (f<(bn w (c.burns.getD i default).toNat).Night∧(bn w (c.burns.getD i default).toNat).Night≤t):=by
    rw [Bool.decide_and];rfl
   rw [e]
   unfold bn at hb
   refine zbJ (fun h=>zai (by simp only;omega) (zai (by simp only;omega) (hK _ ?_))) (fun h=>hK _ ?_)
   · rw [zey hi,zfU,zfU]
     simp only [g]
     rw [if_pos h,if_pos h];rfl
   · rw [zey hi,zfU,zfU]
     simp only [g]
     rw [if_neg h,if_neg h,Int.add_zero,Int.add_zero]
 · rw [hs,List.take_length]
   have key:∀ F:Burn→Int,lsum (g F) c.burns=za4 (zhg w known m f t) (fun i=>F (bn w i)) w.Burns.length:=fun F=>by
    rw [zog hc.burns]
    unfold zhX
    rw [zjK]
    have:(fun i:Nat=>g F (i:Int))=fun i:Nat=>if (decide (f<(bn w i).Night) && decide ((bn w i).Night≤t))=true then F (bn w i) else 0:=by
     funext i
     simp only [g,Int.toNat_natCast,Bool.and_eq_true,decide_eq_true_eq]
    rw [this,zjB]
    rfl
   have k1:=key (fun b=>b.Minutes.Lo)
   have k2:=key (fun b=>b.Minutes.Hi)
   show Range.mk _ _=Range.mk _ _
   rw [k1,k2];rfl
structure Ends (S:List mantle_sight) (g b:Int):Prop where
 top:∀ x∈S,x.bad=false→x.night≤g
 good:g = -1∨∃ x∈S,x.bad=false∧x.night=g
 low:∀ x∈S,x.bad=true→b ≠ -1∧b≤x.night
 bad:b = -1∨∃ x∈S,x.bad=true∧x.night=b
 g0 : -1≤g
 b0 : -1≤b
theorem Ends.uniq {S:List mantle_sight} {g b g' b':Int} (h:Ends S g b) (h':Ends S g' b'):g=g'∧b=b':=by
 constructor
 · rcases h.good with e|⟨x,hx,h1,h2⟩ <;> rcases h'.good with e'|⟨y,hy,h3,h4⟩
   · omega
   · have:=h.top y hy h3;have:=h'.g0;have:=h.g0;omega
   · have:=h'.top x hx h1;have:=h'.g0;have:=h.g0;omega
   · have:=h.top y hy h3;have:=h'.top x hx h1;omega
 · rcases h.bad with e|⟨x,hx,h1,h2⟩ <;> rcases h'.bad with e'|⟨y,hy,h3,h4⟩
   · omega
   · exact absurd e (h.low y hy h3).1
   · exact absurd e' (h'.low x hx h1).1
   · have:=(h.low y hy h3).2;have:=(h'.low x hx h1).2;omega
theorem zoI (c:mantle_coat) (hn:∀ x∈c.sights,0≤x.night):Wp (zch c) (fun r=>Ends c.sights r.1 r.2):=by
 unfold zch
 refine zdU (fun i s=>Ends (c.sights.take i) s.1 s.2) ⟨fun x hx=>by simp [-List.getD_eq_getElem?_getD] at hx,.inl rfl,fun x hx=>by simp [-List.getD_eq_getElem?_getD] at hx,.inl rfl,by decide,by decide⟩ (fun i s K hi hI hK=>?_) (fun s hs=>zax (by rw [List.take_length] at hs;exact hs))
 obtain ⟨g,b⟩:=s
 obtain ⟨h1,h2,h3,h4,h5,h6⟩:=hI
 simp only at h1 h2 h3 h4 h5 h6 ⊢
 have e:c.sights.getD i default=c.sights.getD i default:=rfl
 have hm:=zbR hi
 have h0:=hn _ hm
 generalize hx:c.sights.getD i default=x at hm h0 ⊢
 have hmem:∀ y,y∈c.sights.take (i+1)↔y∈c.sights.take i∨y=x:=fun y=>by rw [zey hi,hx];simp [-List.getD_eq_getElem?_getD]
 refine zcK (fun hb=>hK _ ?_) (fun hb=>?_)
 · have hb':x.bad=false:=by simpa [-List.getD_eq_getElem?_getD] using hb
   refine ⟨fun y hy hyb=>?_,?_,fun y hy hyb=>?_,?_,?_,h6⟩
   · rcases (hmem y).1 hy with hy|rfl
     · have:=h1 y hy hyb;simp only;omega
     · simp only;omega
   · simp only
     rcases Int.le_total g x.night with hle|hle
     · exact .inr ⟨x,(hmem x).2 (.inr rfl),hb',by omega⟩
     · rcases h2 with e|⟨y,hy,y1,y2⟩
       · exact .inr ⟨x,(hmem x).2 (.inr rfl),hb',by omega⟩
       · exact .inr ⟨y,(hmem y).2 (.inl hy),y1,by omega⟩
   · rcases (hmem y).1 hy with hy|rfl
     · exact h3 y hy hyb
     · rw [hb'] at hyb;cases hyb
   · rcases h4 with e|⟨y,hy,y1,y2⟩
     · exact .inl e
     · exact .inr ⟨y,(hmem y).2 (.inl hy),y1,y2⟩
   · simp only;omega
 · have hb':x.bad=true:=by simpa [-List.getD_eq_getElem?_getD] using hb
   refine zcK (fun hc=>hK _ ?_) (fun hc=>hK _ ?_)
   · simp only [Bool.or_eq_true,decide_eq_true_eq] at hc
     refine ⟨fun y hy hyb=>?_,?_,fun y hy hyb=>?_,.inr ⟨x,(hmem x).2 (.inr rfl),hb',rfl⟩,h5,by simp only;omega⟩
     · rcases (hmem y).1 hy with hy|rfl
       · exact h1 y hy hyb
       · rw [hb'] at hyb;cases hyb
     · rcases h2 with e|⟨y,hy,y1,y2⟩
       · exact .inl e
       · exact .inr ⟨y,(hmem y).2 (.inl hy),y1,y2⟩
     · simp only
       rcases (hmem y).1 hy with hy|rfl
       · have:=h3 y hy hyb;omega
       · omega
   · simp only [Bool.or_eq_false_iff,decide_eq_false_iff_not] at hc
     refine ⟨fun y hy hyb=>?_,?_,fun y hy hyb=>?_,?_,h5,h6⟩
     · rcases (hmem y).1 hy with hy|rfl
       · exact h1 y hy hyb
       · rw [hb'] at hyb;cases hyb
     · rcases h2 with e|⟨y,hy,y1,y2⟩
       · exact .inl e
       · exact .inr ⟨y,(hmem y).2 (.inl hy),y1,y2⟩
     · rcases (hmem y).1 hy with hy|rfl
       · exact h3 y hy hyb
       · simp only;omega
     · rcases h4 with e|⟨y,hy,y1,y2⟩
       · exact .inl e
       · exact .inr ⟨y,(hmem y).2 (.inl hy),y1,y2⟩
theorem znG {w:Wear} (V:WearOk w) {known m f t t':Int} (h:t≤t'):zio w known m f t≤zio w known m f t':=by
 refine zfJ (fun i hi=>by have:=(zly V hi).min;omega) (fun i hi hp=>?_)
 simp only [zhg,Bool.and_eq_true,decide_eq_true_eq] at hp ⊢
 exact ⟨hp.1,hp.2.1,by omega⟩
theorem zhZ {w:Wear} (V:WearOk w) {known m f f' t t':Int} (h:t≤t') (hf:f'≤f):zfz w known m f t≤zfz w known m f' t':=by
 refine zfJ (fun i hi=>by have:=(zly V hi).min;omega) (fun i hi hp=>?_)
 simp only [zhg,Bool.and_eq_true,decide_eq_true_eq] at hp ⊢
 exact ⟨hp.1,by omega,by omega⟩
theorem zlC {w:Wear} (V:WearOk w) (known m f t:Int):(0≤zio w known m f t∧zio w known m f t≤86400)∧(0≤zfz w known m f t∧zfz w known m f t≤86400):=sum60 V _ (Nat.le_refl _)
structure OkBy (w:Wear) (known m:Int) (S:List mantle_sight) (x:Int):Prop where
 range:0≤x∧x≤1000000
 good:∀ s∈S,s.bad=false→zio w known m (-1) s.night≤x
 bad:∀ s∈S,s.bad=true→x<zfz w known m (-1) s.night
 two:∀ s∈S,∀ t∈S,s.bad=false→t.bad=true→s.night<t.night∧0<zfz w known m s.night t.night
def zke (w:Wear) (known m g b:Int):Range:=
 if g ≠ -1∧b ≠ -1∧(b≤g∨zfz w known m g b=0) then ⟨1,0⟩ else ⟨if g ≠ -1 then zio w known m (-1) g else 0,if b ≠ -1 then min 1000000 (zfz w known m (-1) b - 1) else 1000000⟩
def inR (r:Range) (x:Int):Prop:=r.Lo≤x∧x≤r.Hi
theorem zmR {w:Wear} (V:WearOk w) {known:Int} {m:Nat} {S:List mantle_sight} {c:mantle_coat} (hc:CoatOk w known m S c) (hn:∀ x∈S,0≤x.night) {g b:Int} (he:Ends S g b):zbp c=some (zke w known m g b):=by
 unfold zbp
 obtain ⟨r,e,hr⟩:=zoI c (by rw [hc.sights];exact hn)
 rw [hc.sights] at hr
 obtain ⟨e1,e2⟩:=hr.uniq he
 have er:r=(g,b):=Prod.ext e1 e2
 subst er
 refine Wp.eq (zaz e ?_)
 have hb:=zlC V known m
 unfold zke
 refine zgK (fun s=>s=if g ≠ -1 then zio w known m (-1) g else 0) (fun K hK=>?_) (fun s hs=>?_)
 · refine zgG (fun h=>zaz (zmp V hc _ _) (hK _ ?_)) (fun h=>hK _ ?_)
   · rw [if_pos h]
   · rw [if_neg (by omega)]
 subst hs
 refine zgK (fun s=>s=if b ≠ -1 then min 1000000 (zfz w known m (-1) b - 1) else 1000000) (fun K hK=>?_) (fun s hs=>?_)
 · refine zgG (fun h=>zaz (zmp V hc _ _) (zai (by have:=hb (-1) b;simp only;omega) (hK _ ?_))) (fun h=>hK _ ?_)
   · rw [if_pos h]
   · rw [if_neg (by omega)]
 subst hs
 refine zlI (Q:=fun y=>y=⟨zio w known m g b,zfz w known m g b⟩) (fun _=>⟨_,zmp V hc _ _,rfl⟩) (fun y hy=>?_)
 simp only [Bool.and_eq_true,Bool.not_eq_true',decide_eq_false_iff_not] at hy
 refine zcK (fun h=>zax ?_) (fun h=>zax ?_)
 · simp only [Bool.and_eq_true,Bool.or_eq_true,Bool.not_eq_true',decide_eq_false_iff_not,decide_eq_true_eq] at h
   obtain ⟨⟨h1,h2⟩,h3⟩:=h
   have:b≤g∨zfz w known m g b=0:=by
    rcases h3 with h3|h3
    · exact .inl h3
    · by_cases h4:b≤g
      · exact .inl h4
      · rw [hy ⟨⟨h1,h2⟩,h4⟩] at h3;exact .inr h3
   rw [if_pos ⟨h1,h2,this⟩]
 · have:¬ (g ≠ -1∧b ≠ -1∧(b≤g∨zfz w known m g b=0)):=by
    rintro ⟨h1,h2,h3⟩
    have h5:(((!decide (g=(-1))) && (!decide (b=(-1)))) && ((decide (b≤g)) || (decide (y.Hi=0))))=true:=by
     simp only [Bool.and_eq_true,Bool.or_eq_true,Bool.not_eq_true',decide_eq_false_iff_not,decide_eq_true_eq]
     refine ⟨⟨h1,h2⟩,?_⟩
     by_cases h4:b≤g
     · exact .inl h4
     · rw [hy ⟨⟨h1,h2⟩,h4⟩];exact .inr (h3.resolve_left h4)
    rw [h5] at h;cases h
   rw [if_neg this]
theorem zk7 {w:Wear} (V:WearOk w) {known m:Int} {S:List mantle_sight} (hn:∀ x∈S,0≤x.night) {g b:Int} (he:Ends S g b) (x:Int):inR (zke w known m g b) x↔OkBy w known m S x:=by
 have hb:=zlC V known m
 unfold zke
 by_cases hc:g ≠ -1∧b ≠ -1∧(b≤g∨zfz w known m g b=0)
 · rw [if_pos hc]
   obtain ⟨c1,c2,c3⟩:=hc
   refine ⟨fun h=>by have:=h.1;have:=h.2;simp only at *;omega,fun h=>?_⟩
   obtain ⟨s,hs,s1,s2⟩:=he.good.resolve_left c1
   obtain ⟨t,ht,t1,t2⟩:=he.bad.resolve_left c2
   have:=h.two s hs t ht s1 t1
   rw [s2,t2] at this
   omega
 · rw [if_neg hc]
   unfold inR
   simp only
   constructor
   · rintro ⟨h1,h2⟩
     refine ⟨?_,fun s hs sb=>?_,fun s hs sb=>?_,fun s hs t ht sb tb=>?_⟩
     · have:=hb (-1) g;have:=hb (-1) b
       constructor
       · split at h1 <;> omega
       · split at h2 <;> omega
     · have a:=he.top s hs sb
       have a0:=hn s hs
       rw [if_pos (by omega)] at h1
       have:=znG V (known:=known) (m:=m) (f:=-1) a
       omega
     · have a:=he.low s hs sb
       rw [if_pos a.1] at h2
       have:=zhZ V (known:=known) (m:=m) (f:=-1) a.2 (Int.le_refl _)
       omega
     · have a:=he.top s hs sb
       have a0:=hn s hs
       have a2:=he.low t ht tb
       have:¬ (b≤g∨zfz w known m g b=0):=fun h=>hc ⟨by omega,a2.1,h⟩
       have h3:0<zfz w known m g b:=by have:=hb g b;omega
       have h4:=zhZ V (known:=known) (m:=m) (f:=g) (f':=s.night) a2.2 a
       exact ⟨by omega,by omega⟩
   · intro h
     have hr:=h.range
     constructor
     · by_cases c1:g ≠ -1
       · rw [if_pos c1]
         obtain ⟨s,hs,s1,s2⟩:=he.good.resolve_left c1
         rw [← s2];exact h.good s hs s1
       · rw [if_neg c1];exact hr.1
     · by_cases c2:b ≠ -1
       · rw [if_pos c2]
         obtain ⟨t,ht,t1,t2⟩:=he.bad.resolve_left c2
         have:=h.bad t ht t1
         rw [t2] at this;omega
       · rw [if_neg c2];exact hr.2
theorem zoJ (S:List mantle_sight) (hn:∀ x∈S,0≤x.night):∃ g b,Ends S g b:=by
 obtain ⟨r,_,h⟩:=zoI ⟨zhm,[],S⟩ hn
 exact ⟨_,_,h⟩
theorem znK {c:mantle_coat} {w:Wear} {known:Int} {m:Nat} {S:List mantle_sight} (hc:CoatOk w known m S c) (x:mantle_sight) (hl:S.length≤1000000):Wp (zbA c x) (fun r=>CoatOk w known m (S++[x]) r):=by
 unfold zbA zbK
 have e:=hc.sights
 refine wp_bind (Q:=fun y=>y=S) (zb2 (by rw [e];simp [-List.getD_eq_getElem?_getD];omega) (zax (by rw [e];simp [-List.getD_eq_getElem?_getD]))) (fun y hy=>?_)
 subst hy
 exact zb2 (by simp [-List.getD_eq_getElem?_getD];omega) (zax ⟨hc.wear,hc.burns,rfl⟩)
end Go.Sp
end
/- Plain laws, mantle: the closet that hang fills. No program in sight. -/
section
set_option linter.all false
namespace Go.Sp
open Go.Av
set_option maxRecDepth 100000
def ba (w:Wear) (i:Nat):Batch:=w.Batches.getD i default
def bat (w:Wear) (i:Nat):Int:=zcY w (mt w i).Batch
theorem zjk {w:Wear} (V:WearOk w) {i:Nat} (hi:i<w.Mantles.length):0≤bat w i∧bat w i<(w.Batches.length:Int):=by
 refine ⟨?_,zjj w _⟩
 rcases Int.lt_or_le (bat w i) 0 with h|h
 · exact absurd (V.has i hi) (zgw.1 h)
 · exact h
structure Hung (w:Wear) (known:Int) (S:Nat→List mantle_sight) (c:mantle_closet):Prop where
 wear:c.w=w
 asof:c.known=known
 coats:∀ i:Nat,i<w.Mantles.length→∃ x,c.coats.get (i:Int)=some x∧CoatOk w known i (S i) x
 len:c.lives.length=w.Batches.length
 lives:∀ b:Nat,b<w.Batches.length→∀ x,inR (c.lives.getD b default) x↔inR (ba w b).Life x∧∀ i,i<w.Mantles.length→bat w i=(b:Int)→OkBy w known i (S i) x
 nights:∀ i,i<w.Mantles.length→∀ s∈S i,0≤s.night
 few:∀ i,i<w.Mantles.length→(S i).length≤1000
def lk (l:List Look) (i:Nat):Look:=l.getD i default
def zc9 (w:Wear) (known:Int) (l:List Look) (m:Nat):Nat→List mantle_sight
 | 0=>[]
 | n+1=>if fit w (lk l n).Lamp (lk l n).Night known=(m:Int)∧zar (lk l n).Known (lk l n).Until known=true then zc9 w known l m n++[⟨(lk l n).Night,(lk l n).Bad⟩] else zc9 w known l m n
def sights (w:Wear) (known:Int) (l:List Look) (m:Nat):List mantle_sight:=zc9 w known l m l.length
theorem zeA {w:Wear} {known:Int} {l:List Look} {m:Nat} {s:mantle_sight}:∀ {n:Nat},s∈zc9 w known l m n↔∃ i,i<n∧fit w (lk l i).Lamp (lk l i).Night known=(m:Int)∧zar (lk l i).Known (lk l i).Until known=true∧s=⟨(lk l i).Night,(lk l i).Bad⟩
 | 0=>⟨fun h=>(by cases h),fun ⟨i,hi,_⟩=>absurd hi (Nat.not_lt_zero _)⟩
 | n+1=>by
  unfold zc9
  by_cases hc:fit w (lk l n).Lamp (lk l n).Night known=(m:Int)∧zar (lk l n).Known (lk l n).Until known=true
  · rw [if_pos hc,List.mem_append,List.mem_singleton,zeA]
    constructor
    · rintro (⟨i,hi,h⟩|h)
      · exact ⟨i,by omega,h⟩
      · exact ⟨n,by omega,hc.1,hc.2,h⟩
    · rintro ⟨i,hi,h⟩
      by_cases e:i=n
      · subst e;exact .inr h.2.2
      · exact .inl ⟨i,by omega,h⟩
  · rw [if_neg hc,zeA]
    constructor
    · rintro ⟨i,hi,h⟩;exact ⟨i,by omega,h⟩
    · rintro ⟨i,hi,h⟩
      by_cases e:i=n
      · subst e;exact absurd ⟨h.1,h.2.1⟩ hc
      · exact ⟨i,by omega,h⟩
theorem zgO {w:Wear} {known:Int} {l:List Look} {m:Nat}:∀ n,(zc9 w known l m n).length≤n
 | 0=>by simp [-List.getD_eq_getElem?_getD,zc9]
 | n+1=>by
  unfold zc9
  have:=zgO (w:=w) (known:=known) (l:=l) (m:=m) n
  split
  · simp [-List.getD_eq_getElem?_getD];omega
  · omega
theorem zm9 {a b:Range} {x:Int}:inR (zaW a b) x↔inR a x∧inR b x:=by
 unfold zaW inR;simp only;omega
theorem zqw (c:mantle_closet) (hl:c.w.Mantles.length≤60):zbF c=some ((List.range' 0 c.w.Mantles.length).map (fun i:Nat=>((i:Int),(c.coats.get (i:Int)).getD default))):=by
 unfold zbF
 rw [zdW (by omega),znB (fun _=>true) (fun i:Nat=>((i:Int),(c.coats.get (i:Int)).getD default)) (fun i r hi=>rfl)]
 rw [List.filter_eq_self.2 (fun _ _=>rfl)]
theorem zqa {A S R:Type} {body:A→S→(S→Option R)→Option R} {ex:S→Option R} {s0:S} {P:R→Prop} (n:Nat) (f:Nat→A) (Inv:Nat→S→Prop) (h0:Inv 0 s0)
 (hb:∀ (j:Nat) s (K:S→Option R),j<n→Inv j s→(∀ s',Inv (j+1) s'→Wp (K s') P)→Wp (body (f j) s K) P) (he:∀ s,Inv n s→Wp (ex s) P):Wp (zib body ex ((List.range' 0 n).map f) s0) P:=by
 have go:∀ (m j:Nat),j+m=n→∀ s,Inv j s→Wp (zib body ex ((List.range' j m).map f) s) P:=by
  intro m
  induction m with
  | zero=>intro j hj s hs;have e:j=n:=(by omega);subst e;exact he s hs
  | succ m ih=>
   intro j hj s hs
   rw [List.range'_succ,List.map_cons]
   exact hb j s _ (by omega) hs (fun s' h'=>ih (j+1) (by omega) s' h')
 exact go n 0 (by omega) s0 h0
theorem zn5 {c:mantle_closet} {b:Nat} (hb:b<c.lives.length) (r:Range):zbq c (b:Int) r=some ⟨c.w,c.known,c.coats,c.lives.set b (zaW (c.lives.getD b default) r)⟩:=by
 unfold zbq
 rw [zdW (by omega),zdW (by omega)]
 rfl
theorem Mp.zko {T:Type} (m:Mp T) (k j:Int) (x:T):(m.set k x).get j=if j=k then some x else m.get j:=rfl
theorem zl3 {w:Wear} (V:WearOk w) {fuel:Nat} (hf:1000≤fuel) {l:List Look} (hl:l.length≤1000) (hn:∀ x∈l,0≤x.Night) (known:Int):Wp (zb9 fuel w l known) (fun c=>Hung w known (sights w known l) c):=by
 have nm:=V.nm;have nb:=V.nb
 unfold zb9
 refine wp_bind (zpO V hf known) (fun y1 hy1=>zaw (by omega) ?_)
 refine zdU (fun i s=>∀ j:Nat,j<i→∃ x,s.get (j:Int)=some x∧CoatOk w known j [] x) (fun j hj=>absurd hj (Nat.not_lt_zero _)) (fun i s K hi hI hK=>hK _ (fun j hj=>?_)) (fun s3 h3=>?_)
 · by_cases e:j=i
   · subst e
     exact ⟨_,by rw [Mp.zko,if_pos rfl],rfl,hy1 _,rfl⟩
   · rw [Mp.zko,if_neg (by omega)]
     exact hI j (by omega)
 refine zdU (fun i s=>∀ j:Nat,j<w.Mantles.length→∃ x,s.get (j:Int)=some x∧CoatOk w known j (zc9 w known l j i) x) h3 (fun i s K hi hI hK=>?_) (fun s5 h5=>?_)
 · refine zaz (zhi w _ _ known) ?_
   have hfl:=zm1 w (l.getD i default).Lamp (l.getD i default).Night known
   refine zcK (fun h=>?_) (fun h=>hK _ (fun j hj=>?_))
   · simp only [Bool.and_eq_true,decide_eq_true_eq] at h
     obtain ⟨m,hm⟩:∃ m:Nat,fit w (l.getD i default).Lamp (l.getD i default).Night known=(m:Int):=⟨_,(Int.toNat_of_nonneg h.1).symm⟩
     rw [hm] at hfl ⊢
     obtain ⟨x,e,hx⟩:=hI m (by omega)
     rw [e]
     refine wp_bind (znK hx _ (by have:=zgO (w:=w) (known:=known) (l:=l) (m:=m) i;omega)) (fun y hy=>hK _ (fun j hj=>?_))
     by_cases ej:j=m
     · subst ej
       refine ⟨y,by rw [Mp.zko,if_pos rfl],?_⟩
       unfold zc9
       rw [if_pos ⟨hm,h.2⟩]
       exact hy
     · rw [Mp.zko,if_neg (by omega)]
       unfold zc9
       rw [if_neg (fun h'=>ej (by have:=h'.1.symm.trans hm;omega))]
       exact hI j hj
   · unfold zc9
     rw [if_neg (fun h'=>?_)]
     · exact hI j hj
     · rw [Bool.and_eq_false_iff,decide_eq_false_iff_not] at h
       rcases h with h|h
       · exact h (by have:=h'.1;unfold lk at this;omega)
       · have:=h'.2;unfold lk at this;rw [this] at h;cases h
 refine zdU (fun i s=>s.length=i∧∀ b,b<i→s.getD b default=(ba w b).Life) ⟨rfl,fun b hb=>absurd hb (Nat.not_lt_zero _)⟩ (fun i s K hi hI hK=>zb2 (by simp [-List.getD_eq_getElem?_getD];omega) (hK _ ⟨by simp [-List.getD_eq_getElem?_getD,hI.1],fun b hb=>?_⟩)) (fun s12 h12=>?_)
 · rw [zcu]
   by_cases e:b=s.length
   · rw [if_pos e,e,hI.1];rfl
   · rw [if_neg e];exact hI.2 b (by omega)
 refine zaz (zqw _ nm) ?_
 refine zqa w.Mantles.length _ (fun j s=>s.length=w.Batches.length∧∀ b:Nat,b<w.Batches.length→∀ x,inR (s.getD b default) x↔inR (ba w b).Life x∧∀ i,i<j→bat w i=(b:Int)→OkBy w known i (sights w known l i) x)
  ⟨h12.1,fun b hb x=>by rw [h12.2 b hb];exact ⟨fun h=>⟨h,fun i hi=>absurd hi (Nat.not_lt_zero _)⟩,fun h=>h.1⟩⟩ (fun j s K hj hI hK=>?_) (fun s hs=>zax ?_)
 · obtain ⟨x,e,hx⟩:=h5 j hj
   have hsn:∀ y∈sights w known l j,0≤y.night:=fun y hy=>by
    obtain ⟨i,hi,_,_,e⟩:=zeA.1 hy
    rw [e];exact hn _ (zbR hi)
   obtain ⟨g,b,he⟩:=zoJ (sights w known l j) hsn
   refine zaw (by omega) (zaz (zgv w _) ?_)
   simp only [Int.toNat_natCast]
   have hbt:=zjk V hj
   have ebt:zcY w (w.Mantles.getD j default).Batch=bat w j:=rfl
   rw [e,ebt]
   obtain ⟨q,hq⟩:∃ q:Nat,bat w j=(q:Int):=⟨_,(Int.toNat_of_nonneg hbt.1).symm⟩
   rw [hq] at hbt ⊢
   refine zaz (zmR V hx hsn he) (zaz (zn5 (c:=⟨w,known,s5,s⟩) (by simp only;omega) _) (zaw (by simp [-List.getD_eq_getElem?_getD]) (hK _ ⟨by simp [-List.getD_eq_getElem?_getD,hI.1],fun b' hb' y=>?_⟩)))
   have hlm:=zk7 V hsn he y (known:=known) (m:=(j:Int))
   simp only
   rw [zmW _ _ _ _ _ (by omega)]
   by_cases eb:b'=q
   · subst eb
     rw [if_pos rfl,zm9,hI.2 b' hb',hlm]
     constructor
     · rintro ⟨⟨a1,a2⟩,a3⟩
       refine ⟨a1,fun i hi hbi=>?_⟩
       by_cases ei:i=j
       · rw [ei];exact a3
       · exact a2 i (by omega) hbi
     · rintro ⟨a1,a2⟩
       exact ⟨⟨a1,fun i hi hbi=>a2 i (by omega) hbi⟩,a2 j (by omega) hq⟩
   · rw [if_neg eb,hI.2 b' hb']
     constructor
     · rintro ⟨a1,a2⟩
       refine ⟨a1,fun i hi hbi=>?_⟩
       by_cases ei:i=j
       · rw [ei,hq] at hbi;omega
       · exact a2 i (by omega) hbi
     · rintro ⟨a1,a2⟩
       exact ⟨a1,fun i hi hbi=>a2 i (by omega) hbi⟩
 · refine ⟨rfl,rfl,h5,hs.1,hs.2,fun i hi y hy=>?_,fun i hi=>?_⟩
   · obtain ⟨k,hk,_,_,e⟩:=zeA.1 hy
     rw [e];exact hn _ (zbR hk)
   · exact Nat.le_trans (zgO _) hl
def zcr (w:Wear) (known:Int) (S:Nat→List mantle_sight):Prop:=∀ b:Nat,b<w.Batches.length→∃ x,inR (ba w b).Life x∧∀ i,i<w.Mantles.length→bat w i=(b:Int)→OkBy w known i (S i) x
theorem zhM {w:Wear} {known:Int} {S:Nat→List mantle_sight} {c:mantle_closet} (h:Hung w known S c):Wp (zaP c) (fun r=>r=true↔zcr w known S):=by
 unfold zaP
 refine zaz (show zbC c.lives _=_ from zeP (q:=zaT) (fun x=>rfl) _) (zax ?_)
 rw [Bool.not_eq_true',List.any_eq_false]
 constructor
 · intro h1 b hb
   have h2:=h1 _ (zbR (l:=c.lives) (i:=b) (by rw [h.len];exact hb))
   have h3:(c.lives.getD b default).Lo≤(c.lives.getD b default).Hi:=by
    simp only [zaT,decide_eq_true_eq] at h2;omega
   exact ⟨_,(h.lives b hb _).1 ⟨Int.le_refl _,h3⟩⟩
 · intro h1 r hr
   obtain ⟨b,hb,rfl⟩:=zc3 hr
   obtain ⟨x,hx⟩:=h1 b (by rw [← h.len];exact hb)
   have:=(h.lives b (by rw [← h.len];exact hb) x).2 hx
   unfold inR at this
   simp only [zaT,decide_eq_true_eq];omega
end Go.Sp
end
/- Plain laws, mantle: whether a mantle is bad. No program in sight. -/
section
set_option linter.all false
namespace Go.Sp
open Go.Av
set_option maxRecDepth 100000
def zdL (w:Wear) (known:Int) (S:Nat→List mantle_sight) (m:Nat) (night:Int) (bad:Bool):Prop:=
 ∃ x,(inR (ba w (bat w m).toNat).Life x∧∀ i,i<w.Mantles.length→bat w i=bat w m→OkBy w known i (S i) x)∧OkBy w known m (S m++[⟨night,bad⟩]) x
open Classical in
noncomputable def stateR (w:Wear) (known:Int) (S:Nat→List mantle_sight) (m:Nat) (night:Int):Int:=
 if ¬ zdL w known S m night true then 0 else if ¬ zdL w known S m night false then 1 else 2
theorem zpQ {w:Wear} {known:Int} {S:Nat→List mantle_sight} {c:mantle_closet} (h:Hung w known S c) {m:Nat} (hm:m<w.Mantles.length):za9 c (m:Int)=some (bat w m):=by
 unfold za9
 rw [h.wear,zdW (by omega)]
 refine Wp.eq (zaz (zgv w _) (zax ?_))
 rfl
theorem zp5 {w:Wear} (V:WearOk w) {known:Int} {S:Nat→List mantle_sight} {c:mantle_closet} (h:Hung w known S c) {m:Nat} (hm:m<w.Mantles.length) {night:Int} (hn:0≤night) (bad:Bool) :
 Wp (zbL c (m:Int) night bad) (fun r=>∀ x,inR r x↔(inR (ba w (bat w m).toNat).Life x∧∀ i,i<w.Mantles.length→bat w i=bat w m→OkBy w known i (S i) x)∧OkBy w known m (S m++[⟨night,bad⟩]) x):=by
 unfold zbL
 have hb:=zjk V hm
 obtain ⟨x,e,hx⟩:=h.coats m hm
 obtain ⟨q,hq⟩:∃ q:Nat,bat w m=(q:Int):=⟨_,(Int.toNat_of_nonneg hb.1).symm⟩
 refine zaz (zpQ h hm) ?_
 rw [hq] at hb ⊢
 refine zaw (by rw [h.len];omega) ?_
 rw [e]
 refine wp_bind (znK hx _ (by have:=h.few m hm;omega)) (fun y hy=>?_)
 have hsn:∀ s∈S m++[⟨night,bad⟩],0≤s.night:=fun s hs=>by
  rcases List.mem_append.1 hs with hs|hs
  · exact h.nights m hm s hs
  · rw [List.mem_singleton] at hs;subst hs;exact hn
 obtain ⟨g,b,he⟩:=zoJ _ hsn
 refine zaz (zmR V hy hsn he) (zax (fun z=>?_))
 rw [zm9,zk7 V hsn he,Int.toNat_natCast,h.lives q (by omega)]
theorem zmK {r:Range}:zaT r=true↔∀ x,¬ inR r x:=by
 unfold zaT inR
 rw [decide_eq_true_eq]
 exact ⟨fun h x hx=>by omega,fun h=>by have:=h r.Lo;omega⟩
theorem zmv {w:Wear} (V:WearOk w) {known:Int} {S:Nat→List mantle_sight} {c:mantle_closet} (h:Hung w known S c) {m:Nat} (hm:m<w.Mantles.length) {night:Int} (hn:0≤night):zaU c (m:Int) night=some (stateR w known S m night):=by
 unfold zaU
 refine Wp.eq (wp_bind (zp5 V h hm hn true) (fun y1 h1=>?_))
 have e1:zaT y1=true↔¬ zdL w known S m night true:=by
  rw [zmK]
  exact ⟨fun k ⟨x,hx⟩=>k x ((h1 x).2 hx),fun k x hx=>k ⟨x,(h1 x).1 hx⟩⟩
 unfold stateR
 refine zcK (fun hb=>zax ?_) (fun hb=>wp_bind (zp5 V h hm hn false) (fun y4 h4=>?_))
 · rw [if_pos (e1.1 hb)]
 have c1:¬ ¬ zdL w known S m night true:=fun k=>by rw [e1.2 k] at hb;cases hb
 rw [if_neg c1]
 have e4:zaT y4=true↔¬ zdL w known S m night false:=by
  rw [zmK]
  exact ⟨fun k ⟨x,hx⟩=>k x ((h4 x).2 hx),fun k x hx=>k ⟨x,(h4 x).1 hx⟩⟩
 refine zcK (fun hb=>zax ?_) (fun hb=>zax ?_)
 · rw [if_pos (e4.1 hb)]
 · rw [if_neg (fun k=>by rw [e4.2 k] at hb;cases hb)]
def zaS (n:Int):Prop:=0≤n∧n≤100000
instance (n:Int):Decidable (zaS n):=inferInstanceAs (Decidable (_∧_))
theorem zfm {n:Int}:zaN n=true↔zaS n:=by simp [-List.getD_eq_getElem?_getD,zaN,zaF,zaS]
theorem ziS {w:Wear} (V:WearOk w) {l:List Int} (h:∀ n∈l,zaS n):zbc w l=some 0:=by
 unfold zbc
 refine Wp.eq (zaz (zfR V) (za2 (by simp [-List.getD_eq_getElem?_getD]) (zaz (show zbm l _=_ from zeP (q:=zbn) (fun x=>rfl) _) ?_)))
 refine za2 ?_ (zax rfl)
 rw [List.any_eq_false]
 intro n hn
 simp [-List.getD_eq_getElem?_getD,zbn,zfm.2 (h n hn)]
theorem zhG {w:Wear} (V:WearOk w) {l:List Int} (h:¬ ∀ n∈l,zaS n):zbc w l=some 6:=by
 unfold zbc
 refine Wp.eq (zaz (zfR V) (za2 (by simp [-List.getD_eq_getElem?_getD]) (zaz (show zbm l _=_ from zeP (q:=zbn) (fun x=>rfl) _) ?_)))
 refine zcA ?_ (zax rfl)
 rw [List.any_eq_true]
 refine Classical.byContradiction (fun k=>h (fun n hn=>?_))
 refine Classical.byContradiction (fun k2=>k ⟨n,hn,?_⟩)
 unfold zbn
 cases h3:zaN n with
 | false=>rfl
 | true=>exact absurd (zfm.1 h3) k2
theorem zjI {w:Wear} (hf:Fits w) (V:¬ WearOk w) (l:List Int):zbc w l=some 64:=by
 unfold zbc
 exact Wp.eq (zaz (znq hf V) (zcA (by simp [-List.getD_eq_getElem?_getD]) (zax rfl)))
def zbW (w:Wear) (lamp night known:Int):Int:=if ¬ (1≤lamp∧lamp≤999) then 1 else if ¬ (zaS night∧zaS known) then 6 else if fit w lamp night known<0 then 66 else 0
theorem zlb {w:Wear} {lamp night known:Int} (h:¬ (1≤lamp∧lamp≤999)):zbW w lamp night known=1:=by unfold zbW;exact if_pos h
theorem zla {w:Wear} {lamp night known:Int} (h:1≤lamp∧lamp≤999) (h2:¬ (zaS night∧zaS known)):zbW w lamp night known=6:=by
 unfold zbW
 exact (if_neg (fun k=>k h)).trans (if_pos h2)
theorem zjN {w:Wear} {lamp night known:Int} (h:1≤lamp∧lamp≤999) (h2:zaS night∧zaS known) (h3:fit w lamp night known<0):zbW w lamp night known=66:=by
 unfold zbW
 exact (if_neg (fun k=>k h)).trans ((if_neg (fun k=>k h2)).trans (if_pos h3))
theorem zlc {w:Wear} {lamp night known:Int} (h:1≤lamp∧lamp≤999) (h2:zaS night∧zaS known) (h3:¬ fit w lamp night known<0):zbW w lamp night known=0:=by
 unfold zbW
 exact (if_neg (fun k=>k h)).trans ((if_neg (fun k=>k h2)).trans (if_neg h3))
theorem zol {w:Wear} (V:WearOk w) (lamp night known:Int):zc5 w lamp night known=some (if zbW w lamp night known=0 then fit w lamp night known else 0,zbW w lamp night known):=by
 unfold zc5
 refine Wp.eq (zaz (zfR V) (za2 (by simp [-List.getD_eq_getElem?_getD]) ?_))
 have e:(!(zaK lamp))=decide (¬ (1≤lamp∧lamp≤999)):=by
  rw [Bool.eq_iff_iff];simp [-List.getD_eq_getElem?_getD,zaK,zaF]
 rw [e]
 refine zbJ (fun h=>zax ?_) (fun h=>?_)
 · rw [zlb h];rfl
 have h:=Classical.not_not.1 h
 by_cases hn:zaS night∧zaS known
 · refine zaz (ziS V (fun n hn'=>by
    simp only [List.mem_cons,List.not_mem_nil,or_false] at hn'
    rcases hn' with rfl|rfl
    · exact hn.1
    · exact hn.2)) (za2 (by simp [-List.getD_eq_getElem?_getD]) (zaz (zhi w _ _ _) ?_))
   refine zbJ (fun h2=>zax ?_) (fun h2=>zax ?_)
   · rw [zjN h hn h2];rfl
   · rw [zlc h hn h2];rfl
 · rw [zla h hn]
   exact zaz (zhG V (fun k=>hn ⟨k night (by simp [-List.getD_eq_getElem?_getD]),k known (by simp [-List.getD_eq_getElem?_getD])⟩)) (zcA (by simp [-List.getD_eq_getElem?_getD]) (zax rfl))
theorem zk9 {w:Wear} {lamp night known:Int} (h:zbW w lamp night known=0):(1≤lamp∧lamp≤999)∧zaS night∧zaS known∧0≤fit w lamp night known:=by
 by_cases h1:1≤lamp∧lamp≤999
 · by_cases h2:zaS night∧zaS known
   · by_cases h3:fit w lamp night known<0
     · rw [zjN h1 h2 h3] at h;omega
     · exact ⟨h1,h2.1,h2.2,by omega⟩
   · rw [zla h1 h2] at h;omega
 · rw [zlb h1] at h;omega
end Go.Sp
end
/- Plain laws, mantle: the document's lives and states. No program in sight. -/
section
set_option linter.all false
namespace Go.Sp
open Go.Av
set_option maxRecDepth 100000
structure ToldL (known:Int) (L:List Look):Prop where
 few:L.length≤900
 night:∀ l∈L,0≤l.Night
 cnt:∀ l∈L,zar l.Known l.Until known=true
def tells (w:Wear) (known:Int) (l:Look):Bool:=decide (0≤fit w l.Lamp l.Night known) && zar l.Known l.Until known
def zo4 (w:Wear) (known:Int):List Look:=w.Looks.filter (tells w known)
theorem atR_2 {w:Wear} {lamp night known:Int}:(atR w lamp night known).2=decide (0≤fit w lamp night known):=by
 unfold atR
 by_cases h:fit w lamp night known<0
 · rw [if_pos h];simp [-List.getD_eq_getElem?_getD];omega
 · rw [if_neg h];simp [-List.getD_eq_getElem?_getD];omega
theorem look_ok {w:Wear} (V:WearOk w) {l:Look} (h:l∈w.Looks):zgg l:=V.lo.ok h
theorem OkBy.mono {w:Wear} {known m:Int} {S T:List mantle_sight} {x:Int} (h:OkBy w known m S x) (hs:∀ s∈T,s∈S):OkBy w known m T x:=
 ⟨h.range,fun s hs'=>h.good s (hs s hs'),fun s hs'=>h.bad s (hs s hs'),fun s hs' t ht=>h.two s (hs s hs') t (hs t ht)⟩
theorem zpY {w:Wear} (V:WearOk w) {i j:Nat} (hi:i<w.Batches.length) (hj:j<w.Batches.length) (e:(ba w i).Id=(ba w j).Id):i=j:=V.ba.inj hi hj e
theorem zoi {w:Wear} (V:WearOk w) {q:Nat} (hq:q<w.Batches.length) {x:Int} (h:inR (ba w q).Life x):0≤x∧x≤1000000:=by
 have:=(V.ba q hq).1.life
 unfold inR ba at h
 omega
theorem zqA {w:Wear} (V:WearOk w) {i q:Nat} (hi:i<w.Mantles.length) (hq:q<w.Batches.length):bat w i=(q:Int)↔(mt w i).Batch=(ba w q).Id:=by
 have hb:=zjk V hi
 have e:=zlB (w:=w) (id:=(mt w i).Batch) hb.1
 constructor
 · intro h
   rw [show zcY w (mt w i).Batch=(q:Int) from h] at e
   exact e.symm
 · intro h
   have:=zpY V (i:=(bat w i).toNat) (by omega) hq (e.trans h)
   omega
def zew (w:Wear) (known:Int) (S:Nat→List mantle_sight) (q:Nat) (x:Int):Prop:=inR (ba w q).Life x∧∀ i,i<w.Mantles.length→bat w i=(q:Int)→OkBy w known i (S i) x
end Go.Sp
end
/- Plain laws, mantle: states by both; MantleAges. No program in sight. -/
section
set_option linter.all false
namespace Go.Sp
open Go.Av
set_option maxRecDepth 100000
theorem zoS {w:Wear} (V:WearOk w) {known:Int} {S:Nat→List mantle_sight} {m:Nat} (hm:m<w.Mantles.length) {night:Int} {bad:Bool} :
 zdL w known S m night bad↔∃ x,zew w known S (bat w m).toNat x∧OkBy w known m (S m++[⟨night,bad⟩]) x:=by
 have hb:=zjk V hm
 have e:(((bat w m).toNat:Nat):Int)=bat w m:=by omega
 unfold zdL zew
 rw [e]
theorem zmx {w:Wear} {known:Int} {S:Nat→List mantle_sight} {m:Nat} {night:Int} (h:¬ zdL w known S m night true):stateR w known S m night=0:=by unfold stateR;exact if_pos h
theorem zmw {w:Wear} {known:Int} {S:Nat→List mantle_sight} {m:Nat} {night:Int} (h:zdL w known S m night true) (h2:¬ zdL w known S m night false):stateR w known S m night=1:=by unfold stateR;exact (if_neg (fun k=>k h)).trans (if_pos h2)
theorem zo5 {w:Wear} {known:Int} {S:Nat→List mantle_sight} {m:Nat} {night:Int} (h:zdL w known S m night true) (h2:zdL w known S m night false):stateR w known S m night=2:=by unfold stateR;exact (if_neg (fun k=>k h)).trans (if_neg (fun k=>k h2))
end Go.Sp
end
/- Plain laws, mantle: State, Age, Fitted by both; MantleAges. No program in sight. -/
section
set_option linter.all false
namespace Go.Sp
open Go.Av
set_option maxRecDepth 100000
def zkS (w:Wear) (known:Int) (m:Nat) (l:Look):Bool:=decide (fit w l.Lamp l.Night known=(m:Int)) && zar l.Known l.Until known
def toS (l:Look):mantle_sight:=⟨l.Night,l.Bad⟩
theorem zjE {w:Wear} {known:Int} {l:List Look} {m:Nat}:∀ {n:Nat},n≤l.length→zc9 w known l m n=((l.take n).filter (zkS w known m)).map toS
 | 0,_=>rfl
 | n+1,h=>by
  rw [zey (by omega),List.filter_append,List.map_append,← zjE (by omega)]
  rw [show zc9 w known l m (n+1)=if fit w (lk l n).Lamp (lk l n).Night known=(m:Int)∧zar (lk l n).Known (lk l n).Until known=true then zc9 w known l m n++[⟨(lk l n).Night,(lk l n).Bad⟩] else zc9 w known l m n from rfl]
  by_cases hc:fit w (lk l n).Lamp (lk l n).Night known=(m:Int)∧zar (lk l n).Known (lk l n).Until known=true
  · have:zkS w known m (l.getD n default)=true:=by unfold zkS;rw [Bool.and_eq_true,decide_eq_true_eq];exact hc
    rw [if_pos hc];simp [-List.getD_eq_getElem?_getD,this,toS,lk]
  · have:zkS w known m (l.getD n default)=false:=by
     rw [← Bool.not_eq_true];unfold zkS;rw [Bool.and_eq_true,decide_eq_true_eq];exact hc
    rw [if_neg hc];simp [-List.getD_eq_getElem?_getD,this]
theorem zj7 (w:Wear) (known:Int) (l:List Look) (m:Nat):sights w known l m=(l.filter (zkS w known m)).map toS:=by
 unfold sights
 rw [zjE (Nat.le_refl _),List.take_length]
theorem zhJ {w:Wear} (V:WearOk w):w.Looks.length≤1000∧∀ x∈w.Looks,0≤x.Night:=⟨by have:=V.nl;omega,fun x hx=>(look_ok V hx).night.1⟩
abbrev allS (w:Wear) (known:Int):Nat→List mantle_sight:=sights w known w.Looks
theorem zmA {w:Wear} (V:WearOk w) {fuel:Nat} (hf:1000≤fuel) (known:Int):Wp (zdx fuel w known) (fun r=>(zcr w known (allS w known)∧r.2=0∧Hung w known (allS w known) r.1)∨(¬ zcr w known (allS w known)∧r.2=65)):=by
 unfold zdx
 refine wp_bind (zl3 V hf (zhJ V).1 (zhJ V).2 known) (fun c hc=>wp_bind (zhM hc) (fun b hb=>?_))
 refine zcK (fun h=>zax (.inr ⟨fun k=>?_,rfl⟩)) (fun h=>zax (.inl ⟨hb.1 (by simpa [-List.getD_eq_getElem?_getD] using h),rfl,hc⟩))
 rw [hb.2 k] at h;cases h
open Classical in
noncomputable def stateV (w:Wear) (lamp night known:Int):Int×Int:=
 if zbW w lamp night known≠0 then (0,zbW w lamp night known) else if zcr w known (allS w known) then (stateR w known (allS w known) (fit w lamp night known).toNat night,0) else (0,65)
theorem znh {w:Wear} {lamp night known:Int} (h:zbW w lamp night known≠0):stateV w lamp night known=(0,zbW w lamp night known):=by unfold stateV;exact if_pos h
theorem ziH {w:Wear} {lamp night known:Int} (h:zbW w lamp night known=0) (h2:zcr w known (allS w known)):stateV w lamp night known=(stateR w known (allS w known) (fit w lamp night known).toNat night,0):=by unfold stateV;exact (if_neg (fun k=>k h)).trans (if_pos h2)
theorem zkP {w:Wear} {lamp night known:Int} (h:zbW w lamp night known=0) (h2:¬ zcr w known (allS w known)):stateV w lamp night known=(0,65):=by unfold stateV;exact (if_neg (fun k=>k h)).trans (if_neg h2)
theorem zk5 {w:Wear} (V:WearOk w) {fuel:Nat} (hf:1000≤fuel) (lamp night known:Int):zcn fuel w lamp night known=some (stateV w lamp night known):=by
 unfold zcn
 refine Wp.eq (zaz (zol V lamp night known) ?_)
 refine zgG (fun h=>zax (znh h).symm) (fun h=>?_)
 have h:zbW w lamp night known=0:=h
 obtain ⟨h1,h2,h3,h4⟩:=zk9 h
 simp only [h,if_true]
 have hlt:=zm1 w lamp night known
 obtain ⟨m,hm⟩:∃ m:Nat,fit w lamp night known=(m:Int):=⟨_,(Int.toNat_of_nonneg h4).symm⟩
 refine wp_bind (zmA V hf known) (fun r hr=>?_)
 rcases hr with ⟨k1,k2,k3⟩|⟨k1,k2⟩
 · refine zgG (fun h=>absurd k2 h) (fun _=>?_)
   rw [hm] at hlt ⊢
   refine zaz (zmv V k3 (by omega) h2.1) (zax ?_)
   rw [ziH h k1,hm,Int.toNat_natCast]
 · refine zgG (fun _=>zax ?_) (fun h=>by omega)
   rw [zkP h k1,k2]
end Go.Sp
end
/- Plain laws, mantle: Life, Sound, Clash by both. No program in sight. -/
section
set_option linter.all false
namespace Go.Sp
open Go.Av
set_option maxRecDepth 100000
theorem zpW {known:Int} (h:zaS known):∀ n∈([known]:List Int),zaS n:=fun n hn=>by rw [List.mem_singleton] at hn;rw [hn];exact h
theorem zn3 {known:Int} (h:¬ zaS known):¬ ∀ n∈([known]:List Int),zaS n:=fun k=>h (k known (by simp [-List.getD_eq_getElem?_getD]))
structure LifeV (w:Wear) (known:Int) (id:Int) (r:Range×Int):Prop where
 inv:¬ WearOk w→r=(⟨0,0⟩,64)
 day:WearOk w→¬ zaS known→r=(⟨0,0⟩,6)
 none:WearOk w→zaS known→zcY w id<0→r=(⟨0,0⟩,3)
 fals:WearOk w→zaS known→0≤zcY w id→¬ zcr w known (allS w known)→r=(⟨0,0⟩,65)
 ok:WearOk w→zaS known→0≤zcY w id→zcr w known (allS w known)→r.2=0∧∀ x,inR r.1 x↔zew w known (allS w known) (zcY w id).toNat x
theorem zmP {w:Wear} (hw:Fits w) {fuel:Nat} (hf:1000≤fuel) (id known:Int):Wp (zds fuel w id known) (LifeV w known id):=by
 unfold zds
 by_cases V:¬ WearOk w
 · exact zaz (zjI hw V _) (zcA (by simp [-List.getD_eq_getElem?_getD]) (zax ⟨fun _=>rfl,fun k=>absurd k V,fun k=>absurd k V,fun k=>absurd k V,fun k=>absurd k V⟩))
 have V:=Classical.not_not.1 V
 by_cases hn:zaS known
 · refine zaz (ziS V (zpW hn)) (za2 (by simp [-List.getD_eq_getElem?_getD]) (zaz (zgv w id) ?_))
   refine zbJ (fun hb=>zax ⟨fun k=>absurd V k,fun _ k=>absurd hn k,fun _ _ _=>rfl,fun _ _ k=>by omega,fun _ _ k=>by omega⟩) (fun hb=>?_)
   refine wp_bind (zmA V hf known) (fun r hr=>?_)
   rcases hr with ⟨k1,k2,k3⟩|⟨k1,k2⟩
   · refine zgG (fun h=>absurd k2 h) (fun _=>?_)
     have hlt:=zjj w id
     refine zaw (by rw [k3.len];omega) (zax ⟨fun k=>absurd V k,fun _ k=>absurd hn k,fun _ _ k=>by omega,fun _ _ _ k=>absurd k1 k,fun _ _ _ _=>⟨rfl,fun x=>?_⟩⟩)
     rw [k3.lives _ (by omega)]
     rfl
   · refine zgG (fun _=>zax ⟨fun k=>absurd V k,fun _ k=>absurd hn k,fun _ _ k=>by omega,fun _ _ _ _=>by rw [k2],fun _ _ _ k=>absurd k k1⟩) (fun h=>by omega)
 · refine zaz (zhG V (zn3 hn)) (zcA (by simp [-List.getD_eq_getElem?_getD]) (zax ⟨fun k=>absurd V k,fun _ _=>rfl,fun _ k=>absurd k hn,fun _ k=>absurd k hn,fun _ k=>absurd k hn⟩))
structure SoundV (w:Wear) (known:Int) (r:Bool×Int):Prop where
 inv:¬ WearOk w→r=(false,64)
 day:WearOk w→¬ zaS known→r=(false,6)
 ok:WearOk w→zaS known→r.2=0∧(r.1=true↔zcr w known (allS w known))
theorem zoe {w:Wear} (hw:Fits w) {fuel:Nat} (hf:1000≤fuel) (known:Int):Wp (zd9 fuel w known) (SoundV w known):=by
 unfold zd9
 by_cases V:¬ WearOk w
 · exact zaz (zjI hw V _) (zcA (by simp [-List.getD_eq_getElem?_getD]) (zax ⟨fun _=>rfl,fun k=>absurd k V,fun k=>absurd k V⟩))
 have V:=Classical.not_not.1 V
 by_cases hn:zaS known
 · refine zaz (ziS V (zpW hn)) (za2 (by simp [-List.getD_eq_getElem?_getD]) (wp_bind (zl3 V hf (zhJ V).1 (zhJ V).2 known) (fun c hc=>wp_bind (zhM hc) (fun b hb=>zax ⟨fun k=>absurd V k,fun _ k=>absurd hn k,fun _ _=>⟨rfl,hb⟩⟩))))
 · refine zaz (zhG V (zn3 hn)) (zcA (by simp [-List.getD_eq_getElem?_getD]) (zax ⟨fun k=>absurd V k,fun _ _=>rfl,fun _ k=>absurd k hn⟩))
def without (l:List Look) (i:Nat):List Look:=l.take i++l.drop (i+1)
open Classical in
noncomputable def clashF (w:Wear) (known:Int):Nat→List Look→List Look
 | 0,l=>l
 | n+1,l=>if zcr w known (sights w known (without l n)) then clashF w known n l else clashF w known n (without l n)
structure ClashV (w:Wear) (known:Int) (r:List Int×Int):Prop where
 inv:¬ WearOk w→r=([],64)
 day:WearOk w→¬ zaS known→r=([],6)
 none:WearOk w→zaS known→zcr w known (allS w known)→r=([],3)
 ok:WearOk w→zaS known→¬ zcr w known (allS w known)→r=((clashF w known (zo4 w known).length (zo4 w known)).map (·.Source),0)
end Go.Sp
end
/- Plain laws, mantle: CheckClash by both; MantleLives. No program in sight. -/
section
set_option linter.all false
namespace Go.Sp
open Go.Av
set_option maxRecDepth 100000
structure Picks (w:Wear) (known:Int) (q:List Int) (n:Nat) (s:List Look):Prop where
 len:s.length=n
 mem:∀ j,j<n→lk s j∈zo4 w known∧(lk s j).Source=q.getD j default
 ris:∀ j,0<j→j<n→q.getD (j - 1) default<q.getD j default
theorem Picks.all {w:Wear} {known:Int} {q:List Int} {n:Nat} {s:List Look} (h:Picks w known q n s):∀ l∈s,l∈zo4 w known:=fun l hl=>by
 obtain ⟨i,hi,e⟩:=zc3 hl
 have:=(h.mem i (by have:=h.len;omega)).1
 unfold lk at this
 rwa [e] at this
def CC (w:Wear) (known:Int) (q:List Int):Prop:=∃ s,Picks w known q q.length s∧¬ zcr w known (sights w known s)∧∀ i,i<s.length→zcr w known (sights w known (without s i))
structure CheckV (w:Wear) (known:Int) (q:List Int) (r:Int):Prop where
 inv:¬ WearOk w→r=64
 day:WearOk w→¬ zaS known→r=6
 yes:WearOk w→zaS known→CC w known q→r=0
 no:WearOk w→zaS known→¬ CC w known q→r=68
end Go.Sp
end
/- Plain laws, mantle: slices.Compact; a wear without a source; Moved by both; MantleMoves. No program in sight. -/
section
set_option linter.all false
namespace Go.Sp
open Go.Av
set_option maxRecDepth 100000
theorem ltGet {l:List Int} (h:l.Pairwise (· < ·)) {i j:Nat} (hij:i<j) (hj:j<l.length):l.getD i default<l.getD j default:=ze3 (f:=fun x:Int=>x) h hij hj
def zqo (w:Wear) (src:Int):Wear:=⟨w.Batches,w.Mantles.filter (fun m=>!decide (m.Source=src)),w.Burns.filter (fun b=>!decide (b.Source=src)),w.Looks.filter (fun l=>!decide (l.Source=src))⟩
def total (w:Wear):Nat:=w.Mantles.length+w.Burns.length+w.Looks.length
end Go.Sp
end
/- Plain laws, mantle: Moved by both; MantleMoves. No program in sight. -/
section
set_option linter.all false
namespace Go.Sp
open Go.Av
set_option maxRecDepth 100000
def Moves (w:Wear) (src night known:Int) (lamp:Int):Prop:=stateV w lamp night known≠stateV (zqo w src) lamp night known
structure MovedV (w:Wear) (src night known:Int) (r:List Int×Int):Prop where
 inv:¬ WearOk w→r=([],64)
 day:WearOk w→¬ (zaS night∧zaS known)→r=([],6)
 none:WearOk w→zaS night∧zaS known→¬ total (zqo w src)<total w→r=([],3)
 ok:WearOk w→zaS night∧zaS known→total (zqo w src)<total w→r.2=0∧r.1.Pairwise (· < ·)∧(∀ x,x∈r.1↔(∃ j,j<w.Mantles.length∧(mt w j).Lamp=x)∧Moves w src night known x)∧r.1.length≤60
end Go.Sp
end
/- Plain laws, mantle: the wears that numbers determine. No program in sight. -/
section
set_option linter.all false
namespace Go.Sp
open Go.Av
set_option maxRecDepth 100000
theorem zdi {n m:Int} (hm:0<m∧m≤1000000):Wp (zas n m) (fun r=>0≤r∧r<m):=by
 unfold zas
 have h1:=Int.tmod_lt_of_pos n hm.1
 have h2 : -m<Int.tmod n m:=by
  have:=Int.tmod_lt_of_pos (-n) hm.1
  rw [Int.neg_tmod] at this
  omega
 refine zaw (by omega) (zai (by omega) (zaw (by omega) (zax ⟨Int.tmod_nonneg _ (by omega),Int.tmod_lt_of_pos _ hm.1⟩)))
theorem znZ {l:List Int} {i:Int} (hi:0≤i):Wp (zbM l i) (fun _=>True):=by
 unfold zbM
 refine zbJ (fun _=>zax trivial) (fun h=>?_)
 have h0:(0:Int)<(l.length:Int):=by omega
 exact zaw (by omega) (zaw ⟨Int.tmod_nonneg _ hi,Int.tmod_lt_of_pos _ h0⟩ (zax trivial))
structure TrueT (w:Wear) (t:Lives):Prop where
 nl:t.Lives.length=w.Batches.length
 lives:∀ i,i<w.Batches.length→inR (ba w i).Life (t.Lives.getD i default)
 nm:t.Minutes.length=w.Burns.length
 mins:∀ i,i<w.Burns.length→(bn w i).Minutes.Lo≤t.Minutes.getD i default∧t.Minutes.getD i default≤(bn w i).Minutes.Hi
structure MadeV (w:Wear) (t:Lives):Prop where
 ok:WearOk w
 tr:TrueT w t
 looks:w.Looks.length≤6
 src:∀ l∈w.Looks,l.Source≤60
theorem zhj {T:Type} [Inhabited T] {ok:T→Prop} {num:T→Int} {l:List T} (h:zeN ok num l) {x:T} (hx:ok x) (hn:∀ y∈l,num y<num x):zeN ok num (l++[x]):=by
 intro i hi
 simp only [List.length_append,List.length_cons,List.length_nil] at hi
 rw [zcu,zcu]
 by_cases e:i=l.length
 · rw [if_pos e]
   refine ⟨hx,fun h0=>?_⟩
   rw [if_neg (by omega)]
   exact hn _ (zbR (by omega))
 · rw [if_neg e]
   refine ⟨(h i (by omega)).1,fun h0=>?_⟩
   rw [if_neg (by omega)]
   exact (h i (by omega)).2 h0
theorem zix {T:Type} [Inhabited T] {ok:T→Prop} {num:T→Int}:zeN ok num ([]:List T):=fun i hi=>absurd hi (Nat.not_lt_zero _)
theorem zqm {fuel:Nat} (hf:1000≤fuel) (r:gasolierref06_Raw) (q:List Int):Wp (zb6 fuel r q) (fun z=>MadeV z.1 z.2):=by
 unfold zb6
 refine zjx 2 (by omega) (fun i s=>s.1.length=i∧s.2.length=i∧zeN BatchOk (·.Id) s.1∧(∀ j,j<i→(s.1.getD j default).Id=(j:Int)+1)∧∀ j,j<i→inR (s.1.getD j default).Life (s.2.getD j default)) ⟨rfl,rfl,zix,fun j hj=>absurd hj (Nat.not_lt_zero _),fun j hj=>absurd hj (Nat.not_lt_zero _)⟩ (fun i s K hi hI hK=>?_)
 obtain ⟨bs,ls⟩:=s
 obtain ⟨b1,b2,b3,b4,b5⟩:=hI
 simp only at b1 b2 b3 b4 b5 ⊢
 refine zcK (fun hb=>?_) (fun hb=>?_)
 · have hi2:i<2:=by
    simp only [Bool.or_eq_true,Bool.and_eq_true,decide_eq_true_eq] at hb
    omega
   refine zgK (fun _=>True) (fun K2 hK2=>?_) (fun s3 _=>?_)
   · exact zbJ (fun h=>zaw (by omega) (hK2 _ trivial)) (fun h=>hK2 _ trivial)
   refine wp_bind (zdi (by omega)) (fun lo hlo=>zai (by omega) (wp_bind (zdi (by omega)) (fun d hd=>zai (by omega) ?_)))
   refine zb2 (by simp [-List.getD_eq_getElem?_getD];omega) (wp_bind (znZ (by omega)) (fun p _=>zai (by omega) (zai (by omega) (wp_bind (zdi (by omega)) (fun v hv=>zai (by omega) (zb2 (by simp [-List.getD_eq_getElem?_getD];omega) (zai (by omega) (hK _ hi2 ?_))))))))
   refine ⟨by simp [-List.getD_eq_getElem?_getD,b1],by simp [-List.getD_eq_getElem?_getD,b2],zhj b3 ⟨by simp only;omega,by simp only;omega⟩ (fun y hy=>?_),fun j hj=>?_,fun j hj=>?_⟩
   · obtain ⟨j,hj,e⟩:=zc3 hy
     have:=b4 j (by omega)
     rw [e] at this
     simp only;omega
   · rw [zcu]
     by_cases e:j=bs.length
     · rw [if_pos e];simp only;omega
     · rw [if_neg e];exact b4 j (by omega)
   · rw [zcu,zcu]
     by_cases e:j=bs.length
     · rw [if_pos e,if_pos (by omega)];unfold inR;simp only;omega
     · rw [if_neg e,if_neg (by omega)];exact b5 j (by omega)
 have hi1:1≤i:=by
  simp only [Bool.or_eq_false_iff,decide_eq_false_iff_not] at hb
  omega
 refine zjx 7 (by omega) (fun j s=>s.length=j∧zeN MantleOk (·.Source) s∧(∀ k,k<j→(s.getD k default).Source=(k:Int)+1)∧∀ k,k<j→∃ q,q<bs.length∧(bs.getD q default).Id=(s.getD k default).Batch) ⟨rfl,zix,fun j hj=>absurd hj (Nat.not_lt_zero _),fun j hj=>absurd hj (Nat.not_lt_zero _)⟩ (fun j ms K2 hj hI2 hK2=>?_)
 obtain ⟨m1,m2,m3,m4⟩:=hI2
 refine zcK (fun hb=>?_) (fun _=>?_)
 · simp only [Bool.and_eq_true,decide_eq_true_eq] at hb
   refine zaw (by simp only;omega) (zai (by simp only;omega) (wp_bind (zdi (by omega)) (fun a ha=>zai (by omega) (wp_bind (zdi (by omega)) (fun b hb2=>zai (by omega) (wp_bind (zdi (by omega)) (fun c hc=>wp_bind (zdi (by omega)) (fun d hd=>?_))))))))
   refine zb2 (by simp [-List.getD_eq_getElem?_getD];omega) (zai (by simp only;omega) (hK2 _ (by omega) ⟨by simp [-List.getD_eq_getElem?_getD,m1],zhj m2 ⟨⟨by simp only;omega,by simp only;omega,by simp only;omega,by simp only;omega,.inl rfl⟩,by simp only;omega⟩ (fun y hy=>?_),fun k hk=>?_,fun k hk=>?_⟩))
   · obtain ⟨k,hk,e⟩:=zc3 hy
     have:=m3 k (by omega)
     rw [e] at this
     simp only;omega
   · rw [zcu]
     by_cases e:k=ms.length
     · rw [if_pos e];simp only;omega
     · rw [if_neg e];exact m3 k (by omega)
   · rw [zcu]
     by_cases e:k=ms.length
     · rw [if_pos e]
       refine ⟨b.toNat,by omega,?_⟩
       have:=b4 b.toNat (by omega)
       simp only;omega
     · rw [if_neg e];exact m4 k (by omega)
 refine zjx 14 (by omega) (fun j s=>s.1.length=j∧s.2.length=j∧zeN BurnOk (·.Source) s.1∧(∀ k,k<j→(s.1.getD k default).Source=(k:Int)+20)∧∀ k,k<j→(s.1.getD k default).Minutes.Lo≤s.2.getD k default∧s.2.getD k default≤(s.1.getD k default).Minutes.Hi) ⟨rfl,rfl,zix,fun j hj=>absurd hj (Nat.not_lt_zero _),fun j hj=>absurd hj (Nat.not_lt_zero _)⟩ (fun j3 s K3 hj3 hI3 hK3=>?_)
 obtain ⟨us,ts⟩:=s
 obtain ⟨u1,u2,u3,u4,u5⟩:=hI3
 simp only at u1 u2 u3 u4 u5 ⊢
 refine zcK (fun hb=>?_) (fun _=>?_)
 · simp only [Bool.and_eq_true,decide_eq_true_eq] at hb
   refine zaw (by omega) (wp_bind (zdi (by omega)) (fun lo hlo=>zai (by omega) (wp_bind (zdi (by omega)) (fun a ha=>zai (by omega) (wp_bind (zdi (by omega)) (fun n hn=>wp_bind (zdi (by omega)) (fun d hd=>zai (by omega) (wp_bind (zdi (by omega)) (fun k hk=>?_)))))))))
   refine zb2 (by simp [-List.getD_eq_getElem?_getD];omega) (zai (by omega) (wp_bind (znZ (by omega)) (fun p _=>zai (by omega) (zai (by omega) (wp_bind (zdi (by omega)) (fun v hv=>zai (by omega) (zb2 (by simp [-List.getD_eq_getElem?_getD];omega) (zai (by omega) (hK3 _ (by omega) ?_)))))))))
   refine ⟨by simp [-List.getD_eq_getElem?_getD,u1],by simp [-List.getD_eq_getElem?_getD,u2],zhj u3 ⟨⟨by simp only;omega,by simp only;omega,by simp only;omega,by simp only;omega,.inl rfl⟩,by simp only;omega⟩ (fun y hy=>?_),fun j hj=>?_,fun j hj=>?_⟩
   · obtain ⟨k2,hk2,e⟩:=zc3 hy
     have:=u4 k2 (by omega)
     rw [e] at this
     simp only;omega
   · rw [zcu]
     by_cases e:j=us.length
     · rw [if_pos e];simp only;omega
     · rw [if_neg e];exact u4 j (by omega)
   · rw [zcu,zcu]
     by_cases e:j=us.length
     · rw [if_pos e,if_pos (by omega)];simp only;omega
     · rw [if_neg e,if_neg (by omega)];exact u5 j (by omega)
 refine zjx 6 (by omega) (fun j s=>s.length=j∧zeN zgg (·.Source) s∧∀ k,k<j→(s.getD k default).Source=(k:Int)+50) ⟨rfl,zix,fun j hj=>absurd hj (Nat.not_lt_zero _)⟩ (fun j4 xs K4 hj4 hI4 hK4=>?_)
 obtain ⟨x1,x2,x3⟩:=hI4
 refine zcK (fun hb=>?_) (fun _=>zax ?_)
 · simp only [Bool.and_eq_true,decide_eq_true_eq] at hb
   refine zaw (by simp only;omega) (zai (by simp only;omega) (wp_bind (zdi (by omega)) (fun a ha=>zai (by omega) (wp_bind (zdi (by omega)) (fun n hn=>wp_bind (zdi (by omega)) (fun d hd=>wp_bind (zdi (by omega)) (fun k hk=>?_)))))))
   refine zb2 (by simp [-List.getD_eq_getElem?_getD];omega) (zai (by simp only;omega) (hK4 _ (by omega) ⟨by simp [-List.getD_eq_getElem?_getD,x1],zhj x2 ⟨by simp only;omega,by simp only;omega,by simp only;omega,by simp only;omega,.inl rfl⟩ (fun y hy=>?_),fun k hk=>?_⟩))
   · obtain ⟨k2,hk2,e⟩:=zc3 hy
     have:=x3 k2 (by omega)
     rw [e] at this
     simp only;omega
   · rw [zcu]
     by_cases e:k=xs.length
     · rw [if_pos e];simp only;omega
     · rw [if_neg e];exact x3 k (by omega)
 · refine ⟨⟨by simp only;omega,by simp only;omega,by simp only;omega,by simp only;omega,b3,m2,u3,x2,fun k hk=>m4 k (by simp only at hk;omega)⟩,⟨by simp only;omega,fun k hk=>b5 k (by simp only at hk;omega),by simp only;omega,fun k hk=>u5 k (by simp only at hk;omega)⟩,by simp only;omega,fun l hl=>?_⟩
   obtain ⟨k,hk,e⟩:=zc3 (l:=xs) hl
   have:=x3 k (by omega)
   rw [e] at this
   omega
end Go.Sp
end
/- Plain laws, mantle: looks that are right by lives and minutes. No program in sight. -/
section
set_option linter.all false
namespace Go.Sp
open Go.Av
set_option maxRecDepth 100000
def zbr (w:Wear) (l:List Look):Wear:=⟨w.Batches,w.Mantles,w.Burns,l⟩
theorem zi4 (w:Wear) (l:List Look) (lamp night known:Int):fit (zbr w l) lamp night known=fit w lamp night known:=by
 have go:∀ n,fitN (zbr w l) lamp night known n=fitN w lamp night known n:=by
  intro n
  induction n with
  | zero=>rfl
  | succ n ih=>unfold fitN;rw [ih];rfl
 exact go _
theorem zqb (w:Wear) (l:List Look) (known:Int) (i:Nat):tell (zbr w l) known i=tell w known i:=by
 unfold tell
 rw [zi4]
 rfl
theorem zkl (w:Wear) (l:List Look) (known m f t:Int) (i:Nat):zhg (zbr w l) known m f t i=zhg w known m f t i:=by
 unfold zhg
 rw [zi4,zqb]
 rfl
theorem znc (w:Wear) (l:List Look) (known m f t:Int):zio (zbr w l) known m f t=zio w known m f t:=zd1 (fun i _=>zkl w l known m f t i)
theorem ziy (w:Wear) (l:List Look) (known m f t:Int):zfz (zbr w l) known m f t=zfz w known m f t:=zd1 (fun i _=>zkl w l known m f t i)
theorem zhE {w:Wear} {l:List Look} {known m:Int} {S:List mantle_sight} {x:Int}:OkBy (zbr w l) known m S x↔OkBy w known m S x:=by
 constructor
 · rintro ⟨h1,h2,h3,h4⟩
   exact ⟨h1,fun s hs hb=>znc w l known m (-1) s.night▸h2 s hs hb,fun s hs hb=>ziy w l known m (-1) s.night▸h3 s hs hb,fun s hs t ht hb hc=>ziy w l known m s.night t.night▸h4 s hs t ht hb hc⟩
 · rintro ⟨h1,h2,h3,h4⟩
   exact ⟨h1,fun s hs hb=>(znc w l known m (-1) s.night).symm▸h2 s hs hb,fun s hs hb=>(ziy w l known m (-1) s.night).symm▸h3 s hs hb,fun s hs t ht hb hc=>(ziy w l known m s.night t.night).symm▸h4 s hs t ht hb hc⟩
theorem zmo {w:Wear} {l:List Look} {known:Int} {S:Nat→List mantle_sight} {q:Nat} {x:Int}:zew (zbr w l) known S q x↔zew w known S q x:=by
 unfold zew
 constructor
 · rintro ⟨h1,h2⟩;exact ⟨h1,fun i hi hb=>zhE.1 (h2 i hi hb)⟩
 · rintro ⟨h1,h2⟩;exact ⟨h1,fun i hi hb=>zhE.2 (h2 i hi hb)⟩
theorem zns (w:Wear) (l:List Look) (lamp night known:Int):zbW (zbr w l) lamp night known=zbW w lamp night known:=by
 unfold zbW
 rw [zi4]
theorem zj4 {w:Wear} {t:Lives} (h:TrueT w t) (l:List Look):TrueT (zbr w l) t:=⟨h.nl,h.lives,h.nm,h.mins⟩
def tAge (w:Wear) (known:Int) (t:Lives) (m f n:Int):Int:=za4 (zhg w known m f n) (fun i=>t.Minutes.getD i default) w.Burns.length
theorem zqc {w:Wear} {t:Lives} (h:TrueT w t) (known m f n:Int):zio w known m f n≤tAge w known t m f n:=zgM (fun i hi _=>(h.mins i hi).1)
theorem zlN {w:Wear} {t:Lives} (h:TrueT w t) (known m f n:Int):tAge w known t m f n≤zfz w known m f n:=zgM (fun i hi _=>(h.mins i hi).2)
theorem tMin {w:Wear} (V:WearOk w) {t:Lives} (h:TrueT w t) {i:Nat} (hi:i<w.Burns.length):0≤t.Minutes.getD i default∧t.Minutes.getD i default≤1440:=by
 have h1:=h.mins i hi
 have h2:=(zly V hi).min
 omega
theorem znM {w:Wear} (V:WearOk w) {t:Lives} (h:TrueT w t) {known m f n n':Int} (hn:n≤n'):tAge w known t m f n≤tAge w known t m f n':=by
 refine zfJ (fun i hi=>(tMin V h hi).1) (fun i hi hp=>?_)
 simp only [zhg,Bool.and_eq_true,decide_eq_true_eq] at hp ⊢
 exact ⟨hp.1,hp.2.1,by omega⟩
theorem zne {w:Wear} {t:Lives} {known m a b c:Int} (h1:a≤b) (h2:b≤c):tAge w known t m a c=tAge w known t m a b+tAge w known t m b c:=by
 refine zjC (fun i hi=>?_) (fun i hi h=>?_)
 · rw [Bool.eq_iff_iff]
   simp only [zhg,Bool.or_eq_true,Bool.and_eq_true,decide_eq_true_eq]
   constructor
   · rintro ⟨h3,h4,h5⟩
     rcases Int.lt_or_le b (bn w i).Night with h|h
     · exact .inr ⟨h3,h,h5⟩
     · exact .inl ⟨h3,h4,h⟩
   · rintro (⟨h3,h4,h5⟩|⟨h3,h4,h5⟩)
     · exact ⟨h3,h4,by omega⟩
     · exact ⟨h3,by omega,h5⟩
 · simp only [zhg,Bool.and_eq_true,decide_eq_true_eq] at h
   omega
def tBad (w:Wear) (known:Int) (t:Lives) (m:Nat) (night:Int):Bool:=decide (t.Lives.getD (bat w m).toNat default<tAge w known t (m:Int) (-1) night)
def zjw (w:Wear) (known:Int) (t:Lives) (lamp night:Int):Bool:=if fit w lamp night known<0 then false else tBad w known t (fit w lamp night known).toNat night
theorem zk0 {w:Wear} (V:WearOk w) {t:Lives} (h:TrueT w t) {known:Int} {m:Nat} (hm:m<w.Mantles.length) {S:List mantle_sight} (hS:∀ s∈S,s.bad=tBad w known t m s.night):OkBy w known m S (t.Lives.getD (bat w m).toNat default):=by
 have hb:=zjk V hm
 have hg:∀ s∈S,s.bad=false→tAge w known t m (-1) s.night≤t.Lives.getD (bat w m).toNat default:=fun s hs e=>by
  have:=hS s hs
  rw [e] at this
  have:=of_decide_eq_false this.symm
  omega
 have hbd:∀ s∈S,s.bad=true→t.Lives.getD (bat w m).toNat default<tAge w known t m (-1) s.night:=fun s hs e=>by
  have:=hS s hs
  rw [e] at this
  exact of_decide_eq_true this.symm
 refine ⟨zoi V (q:=(bat w m).toNat) (by omega) (h.lives _ (by omega)),fun s hs e=>?_,fun s hs e=>?_,fun s hs u hu e e2=>?_⟩
 · exact Int.le_trans (zqc h known m (-1) s.night) (hg s hs e)
 · exact Int.lt_of_lt_of_le (hbd s hs e) (zlN h known m (-1) s.night)
 · have h1:=hg s hs e
   have h2:=hbd u hu e2
   have hlt:s.night<u.night:=by
    rcases Int.lt_or_le s.night u.night with h3|h3
    · exact h3
    · have:=znM V h (known:=known) (m:=(m:Int)) (f:=-1) h3;omega
   refine ⟨hlt,?_⟩
   by_cases h0 : -1≤s.night
   · have:=zne (w:=w) (t:=t) (known:=known) (m:=(m:Int)) h0 (Int.le_of_lt hlt)
     have:=zlN h known m s.night u.night
     omega
   · have h3:=zlN h known m (-1) u.night
     have h4:=zhZ V (known:=known) (m:=(m:Int)) (f:=-1) (f':=s.night) (Int.le_refl u.night) (by omega)
     have h5:0≤t.Lives.getD (bat w m).toNat default:=(zoi V (q:=(bat w m).toNat) (by omega) (h.lives _ (by omega))).1
     omega
def zjl (w:Wear) (known:Int) (t:Lives) (L:List Look):Prop:=∀ l∈L,l.Bad=zjw w known t l.Lamp l.Night
theorem zh6 {w:Wear} {known:Int} {t:Lives} {L:List Look} (h:zjl w known t L) {m:Nat}:∀ s∈sights w known L m,s.bad=tBad w known t m s.night:=fun s hs=>by
 obtain ⟨i,hi,h1,h2,h3⟩:=zeA.1 hs
 have:=h _ (zbR hi)
 unfold lk at *
 rw [h3]
 simp only
 rw [this]
 unfold zjw
 rw [h1,if_neg (by omega),Int.toNat_natCast]
theorem zjD {w:Wear} (V:WearOk w) {t:Lives} (h:TrueT w t) {known:Int} {L:List Look} (hL:zjl w known t L):∀ b,b<w.Batches.length→zew w known (sights w known L) b (t.Lives.getD b default):=fun b hb=>by
 refine ⟨h.lives b hb,fun i hi hbi=>?_⟩
 have:=zk0 V h hi (zh6 hL (m:=i))
 rw [hbi,Int.toNat_natCast] at this
 exact this
theorem zh5 {w:Wear} (V:WearOk w) {t:Lives} (h:TrueT w t) {known:Int} {L:List Look} (hL:zjl w known t L):zcr w known (sights w known L):=fun b hb=>⟨_,zjD V h hL b hb⟩
theorem zpM {w:Wear} (V:WearOk w) {t:Lives} (h:TrueT w t) {known:Int} {L:List Look} (hL:zjl w known t L) {m:Nat} (hm:m<w.Mantles.length) (night:Int):zdL w known (sights w known L) m night (tBad w known t m night):=by
 have hb:=zjk V hm
 rw [zoS V hm]
 refine ⟨t.Lives.getD (bat w m).toNat default,zjD V h hL _ (by omega),zk0 V h hm (fun s hs=>?_)⟩
 rcases List.mem_append.1 hs with hs|hs
 · exact zh6 hL s hs
 · rw [List.mem_singleton] at hs;rw [hs]
theorem znf {P:Nat→Bool} {f:Nat→Int} {n:Nat} (h:P n=true):za4 P f n+f n=za4 P f (n+1):=by
 show _=za4 P f n+(if P n=true then f n else 0)
 rw [if_pos h]
theorem znN {P:Nat→Bool} {f:Nat→Int} {n:Nat} (h:P n=false):za4 P f n=za4 P f (n+1):=by
 show _=za4 P f n+(if P n=true then f n else 0)
 rw [if_neg (by rw [h];decide),Int.add_zero]
theorem zpp {w:Wear} (V:WearOk w) {t:Lives} (h:TrueT w t) {fuel:Nat} (hf:1000≤fuel) (lamp night known:Int):zbX fuel w t ⟨lamp,night,known⟩=some (zjw w known t lamp night):=by
 have nm:=V.nm;have nu:=V.nu;have nb:=V.nb
 unfold zbX
 refine Wp.eq (zaz (at_eq (by omega) nm _ _ _) (zaz (znd V (by omega) known) ?_))
 have hP:∀ M:Mantle,∀ n:Nat,n≤w.Burns.length→0≤za4 (fun i=>tell w known i && decide ((bn w i).Lamp=lamp) && zaE (bn w i).Night M.Night night) (fun i=>t.Minutes.getD i default) n∧za4 (fun i=>tell w known i && decide ((bn w i).Lamp=lamp) && zaE (bn w i).Night M.Night night) (fun i=>t.Minutes.getD i default) n≤86400:=fun M n hn=>by
  have:=zd2 (P:=fun i=>tell w known i && decide ((bn w i).Lamp=lamp) && zaE (bn w i).Night M.Night night) (f:=fun i=>t.Minutes.getD i default) (c:=1440) (by decide) (n:=n) (fun i hi=>tMin V h (by omega))
  omega
 generalize hM:atR w lamp night known=z
 obtain ⟨M,ok⟩:=z
 simp only
 refine zp8 w.Burns.length (by omega) (fun i s=>s=za4 (fun i=>tell w known i && decide ((bn w i).Lamp=lamp) && zaE (bn w i).Night M.Night night) (fun i=>t.Minutes.getD i default) i) rfl (fun i s K hi hI hK=>?_)
 subst hI
 by_cases hin:i<w.Burns.length
 · have h60:=hP M i (by omega)
   have hmin:=tMin V h hin
   refine zcA (by simp [-List.getD_eq_getElem?_getD];omega) (zaw (by simp only;omega) (zaw (by simp [-List.getD_eq_getElem?_getD];omega) ?_))
   simp only [Int.toNat_natCast]
   have e:((List.range w.Burns.length).map (tell w known)).getD i default=tell w known i:=by
    rw [List.getD_eq_getElem?_getD,List.getElem?_map,List.getElem?_range hin];rfl
   rw [e]
   refine zcK (fun hb=>zaw (by rw [h.nm];omega) (zai (by omega) (zai (by omega) (hK _ hin ?_)))) (fun hb=>zai (by omega) (hK _ hin ?_))
   · exact znf (P:=fun i=>tell w known i && decide ((bn w i).Lamp=lamp) && zaE (bn w i).Night M.Night night) (f:=fun i=>t.Minutes.getD i default) hb
   · exact znN (P:=fun i=>tell w known i && decide ((bn w i).Lamp=lamp) && zaE (bn w i).Night M.Night night) (f:=fun i=>t.Minutes.getD i default) hb
 have ei:i=w.Burns.length:=by omega
 subst ei
 refine za2 (by simp [-List.getD_eq_getElem?_getD]) ?_
 unfold atR at hM
 unfold zjw
 by_cases hfit:fit w lamp night known<0
 · rw [if_pos hfit] at hM ⊢
   cases hM
   refine zj3 (n:=w.Batches.length) (by omega) (fun j=>(ba w j).Id≠0) (fun j K2 hj _ hK2=>?_) (fun _ K2=>za2 (by simp [-List.getD_eq_getElem?_getD]) (zax rfl))
   refine zcA (by simp [-List.getD_eq_getElem?_getD];omega) (zaw (by omega) ?_)
   refine zbJ (fun _=>zaw (fun k=>(by cases k)) (zax (by simp [-List.getD_eq_getElem?_getD]))) (fun hne=>zai (by omega) (hK2 (by simpa [-List.getD_eq_getElem?_getD,ba,zoK] using hne)))
 · rw [if_neg hfit] at hM ⊢
   cases hM
   obtain ⟨m,hm⟩:∃ m:Nat,fit w lamp night known=(m:Int):=⟨_,(Int.toNat_of_nonneg (by omega)).symm⟩
   have hfi:=zp2 hm
   rw [hm,Int.toNat_natCast]
   have hbt:=zjk V hfi.lt
   have hsum:za4 (fun i=>tell w known i && decide ((bn w i).Lamp=lamp) && zaE (bn w i).Night (mt w m).Night night) (fun i=>t.Minutes.getD i default) w.Burns.length=tAge w known t m (-1) night:=by
    refine zd1 (fun i hi=>?_)
    rw [← zpt V hfi hi]
    unfold zoo
    rw [hfi.cand.1]
   rw [hsum]
   refine zj3 (n:=w.Batches.length) (by omega) (fun j=>(ba w j).Id≠(mt w m).Batch) (fun j K2 hj _ hK2=>?_) (fun hall K2=>?_)
   · refine zcA (by simp [-List.getD_eq_getElem?_getD];omega) (zaw (by omega) ?_)
     simp only [Int.toNat_natCast]
     refine zbJ (fun he=>zaw (fun _=>by rw [h.nl];omega) (zax ?_)) (fun hne=>zai (by omega) (hK2 hne))
     have ej:bat w m=(j:Int):=(zqA V hfi.lt hj).2 he.symm
     have e5:tBad w known t m night=decide (t.Lives.getD j default<tAge w known t m (-1) night):=by
      unfold tBad
      rw [ej,Int.toNat_natCast]
     rw [e5]
     exact Bool.true_and _
   · obtain ⟨j,hj,e⟩:=V.has m hfi.lt
     exact absurd e (hall j hj)
def zdD (w:Wear) (known:Int) (t:Lives) (l:List Look):List Look:=l.map (fun l=>⟨l.Source,l.Lamp,l.Night,zjw w known t l.Lamp l.Night,l.Known,l.Until⟩)
def zfM (w:Wear) (known:Int) (t:Lives):Wear:=zbr w (zdD w known t w.Looks)
theorem zcv (w:Wear) (known:Int) (t:Lives) (l:List Look):(zdD w known t l).length=l.length:=by simp [-List.getD_eq_getElem?_getD,zdD]
theorem zhA {w:Wear} {known:Int} {t:Lives} {l:List Look} {i:Nat} (hi:i<l.length):(zdD w known t l).getD i default=⟨(lk l i).Source,(lk l i).Lamp,(lk l i).Night,zjw w known t (lk l i).Lamp (lk l i).Night,(lk l i).Known,(lk l i).Until⟩:=by
 unfold zdD lk
 rw [List.getD_eq_getElem?_getD,List.getElem?_map,List.getElem?_eq_getElem hi,List.getD_eq_getElem?_getD,List.getElem?_eq_getElem hi];rfl
theorem zkW {w:Wear} (V:WearOk w) (known:Int) (t:Lives):WearOk (zfM w known t):=by
 refine ⟨V.nb,V.nm,V.nu,by show (zdD w known t w.Looks).length≤60;rw [zcv];exact V.nl,V.ba,V.ma,V.bu,fun i hi=>?_,V.has⟩
 have hi':i<w.Looks.length:=by
  have:(zfM w known t).Looks.length=w.Looks.length:=zcv w known t w.Looks
  omega
 have h1:=V.lo i hi'
 show zgg ((zdD w known t w.Looks).getD i default)∧(0<i→((zdD w known t w.Looks).getD (i - 1) default).Source<((zdD w known t w.Looks).getD i default).Source)
 rw [zhA hi']
 refine ⟨h1.1,fun h0=>?_⟩
 rw [zhA (by omega)]
 exact h1.2 h0
theorem zna (w:Wear) (l:List Look) (known:Int) (t:Lives) (lamp night:Int):zjw (zbr w l) known t lamp night=zjw w known t lamp night:=by
 unfold zjw tBad
 rw [zi4]
 have:∀ m n:Int,tAge (zbr w l) known t m (-1) n=tAge w known t m (-1) n:=fun m n=>zd1 (fun i _=>zkl w l known m (-1) n i)
 rw [this]
 rfl
theorem zh8 (w:Wear) (known:Int) (t:Lives):zjl (zfM w known t) known t (zfM w known t).Looks:=fun l hl=>by
 have hl':l∈zdD w known t w.Looks:=hl
 unfold zfM
 rw [zna]
 unfold zdD at hl'
 rw [List.mem_map] at hl'
 obtain ⟨l0,_,rfl⟩:=hl'
 rfl
theorem zmB {w:Wear} (V:WearOk w) {t:Lives} (h:TrueT w t) {fuel:Nat} (hf:1000≤fuel) (known:Int):zbB fuel w t known=some (zfM w known t):=by
 have nm:=V.nm;have nu:=V.nu;have nb:=V.nb;have nl:=V.nl
 unfold zbB zbN
 refine Wp.eq (wp_bind (Q:=fun y=>y=w) (zb2 (by simp [-List.getD_eq_getElem?_getD];omega) (zb2 (by simp [-List.getD_eq_getElem?_getD];omega) (zb2 (by simp [-List.getD_eq_getElem?_getD];omega) (zb2 (by simp [-List.getD_eq_getElem?_getD];omega) (zax (by simp [-List.getD_eq_getElem?_getD])))))) (fun y hy=>?_))
 subst hy
 refine zjx y.Looks.length (by omega) (fun i s=>s=(zdD y known t y.Looks).take i++y.Looks.drop i) (by simp [-List.getD_eq_getElem?_getD]) (fun i s K hi hI hK=>?_)
 have hlen:s.length=y.Looks.length:=by rw [hI,List.length_append,List.length_take,List.length_drop,zcv];omega
 by_cases hin:i<y.Looks.length
 · refine zcA (by simp only;rw [decide_eq_true_eq,hlen];omega) (zaw (by simp only;omega) ?_)
   simp only [Int.toNat_natCast]
   have hg:s.getD i default=y.Looks.getD i default:=by
    rw [hI,zeF,List.length_take,zcv,if_neg (by omega),getD_drop]
    congr 1;omega
   rw [hg]
   refine zaz (zpp V h hf _ _ _) (zaw (by omega) (zai (by omega) (hK _ hin ?_)))
   rw [zey (by rw [zcv];exact hin),zhA hin]
   refine zpC (by rw [List.length_set,hlen];simp only [List.length_append,List.length_take,List.length_drop,List.length_cons,List.length_nil,zcv];omega) (fun j hj=>?_)
   rw [List.length_set] at hj
   rw [zmW _ _ _ _ _ (by omega),List.append_assoc,zeF,List.length_take,zcv]
   by_cases e1:j=i
   · rw [if_pos e1,if_neg (by omega),e1,zeF]
     rw [if_pos (by simp only [List.length_cons,List.length_nil];omega)]
     rw [show i - min i y.Looks.length=0 by omega]
     rfl
   · rw [if_neg e1,hI,zeF,List.length_take,zcv]
     by_cases e2:j<min i y.Looks.length
     · rw [if_pos e2,if_pos e2]
     · rw [if_neg e2,if_neg e2,zeF,List.length_cons,List.length_nil,if_neg (by omega),getD_drop,getD_drop]
       congr 1;omega
 · have:i=y.Looks.length:=by omega
   subst this
   refine za2 (by simp only;rw [decide_eq_false_iff_not,hlen];omega) (zax ?_)
   have e1:(zdD y known t y.Looks).take y.Looks.length=zdD y known t y.Looks:=List.take_of_length_le (by rw [zcv];exact Nat.le_refl _)
   simp only
   rw [hI,e1,List.drop_length,List.append_nil]
   rfl
end Go.Sp
end
/- Plain laws, mantle: from night to night; MantleNights. No program in sight. -/
section
set_option linter.all false
namespace Go.Sp
open Go.Av
set_option maxRecDepth 100000
theorem zh4 {w:Wear} {known:Int} {S:Nat→List mantle_sight} {m:Nat} {night:Int}:(stateR w known S m night=0∧¬ zdL w known S m night true)∨(stateR w known S m night=1∧zdL w known S m night true∧¬ zdL w known S m night false)∨(stateR w known S m night=2∧zdL w known S m night true∧zdL w known S m night false):=by
 by_cases h1:zdL w known S m night true
 · by_cases h2:zdL w known S m night false
   · exact .inr (.inr ⟨zo5 h1 h2,h1,h2⟩)
   · exact .inr (.inl ⟨zmw h1 h2,h1,h2⟩)
 · exact .inl ⟨zmx h1,h1⟩
end Go.Sp
end
/- Plain laws, mantle: lots. No program in sight. -/
section
set_option linter.all false
namespace Go.Sp
open Go.Av
set_option maxRecDepth 100000
structure LotOk (w:Wear) (P:List Int) (night known:Int):Prop where
 len:1≤P.length∧P.length≤20
 lamp:∀ i,i<P.length→1≤P.getD i default∧P.getD i default≤999
 ris:∀ i,0<i→i<P.length→P.getD (i - 1) default<P.getD i default
 nOk:zaS night
 kOk:zaS known
 fits:∀ i,i<P.length→0≤fit w (P.getD i default) night known
theorem zpo {w:Wear} {P:List Int} {night known:Int} (h:LotOk w P night known):zd7 P=some true:=by
 have hl:=h.len
 unfold zd7
 refine Wp.eq (ziA (fun _=>True) (fun i K hi _ hK=>?_) (fun _=>zax ?_))
 · refine zaw (fun _=>by unfold inI;omega) (zaw (fun h=>by simp [-List.getD_eq_getElem?_getD] at h;omega) (za2 ?_ (hK trivial)))
   have e:(((i:Int) - 1)).toNat=i - 1:=by omega
   rw [e]
   have h1:=h.lamp i hi
   have h2:=h.ris i
   have e1:zaK (P.getD i default)=true:=by
    unfold zaK zaF
    rw [Bool.and_eq_true,decide_eq_true_eq,decide_eq_true_eq];exact h1
   rw [e1]
   simp only [Bool.not_true,Bool.false_or,Bool.and_eq_false_iff,decide_eq_false_iff_not]
   by_cases h0:0<i
   · have:=h2 h0 hi
     exact .inr (by omega)
   · exact .inl (by omega)
 · unfold zaF
   rw [Bool.and_eq_true,decide_eq_true_eq,decide_eq_true_eq];omega
def lotM (w:Wear) (P:List Int) (night known:Int):List Int:=P.map (fun l=>fit w l night known)
structure LotV (w:Wear) (P:List Int) (night known:Int) (x:mantle_lot):Prop where
 hung:Hung w known (allS w known) x.closet
 lamps:x.lamps=P
 mantles:x.mantles=lotM w P night known
 night:x.night=night
theorem zmQ {w:Wear} {P:List Int} {night known:Int} {i:Nat} (hi:i<P.length):(lotM w P night known).getD i default=fit w (P.getD i default) night known:=by
 unfold lotM
 rw [List.getD_eq_getElem?_getD,List.getElem?_map,List.getElem?_eq_getElem hi,List.getD_eq_getElem?_getD,List.getElem?_eq_getElem hi];rfl
theorem zpl {w:Wear} (V:WearOk w) {fuel:Nat} (hf:1000≤fuel) {P:List Int} {night known many:Int} (h:LotOk w P night known) (hm:0≤many∧many≤20):Wp (zd6 fuel w P night known many) (fun r=>r.2=0∧LotV w P night known r.1):=by
 have hl:=h.len
 unfold zd6
 refine zaz (zfR V) (za2 (by simp [-List.getD_eq_getElem?_getD]) (za2 ?_ (zaz (zpo h) (za2 (by simp [-List.getD_eq_getElem?_getD]) (za2 ?_ ?_)))))
 · unfold zaF
   simp only [Bool.not_eq_false',Bool.and_eq_true,decide_eq_true_eq];omega
 · rw [zfm.2 h.nOk,zfm.2 h.kOk];rfl
 refine wp_bind (zl3 V hf (zhJ V).1 (zhJ V).2 known) (fun c hc=>?_)
 refine zdU (fun i s=>s=(lotM w P night known).take i) rfl (fun i s K hi hI hK=>?_) (fun s hs=>zax ⟨rfl,hc,rfl,?_,rfl⟩)
 · have hi':i<(lotM w P night known).length:=by unfold lotM;rw [List.length_map];exact hi
   refine zaz (zhi w _ _ _) ?_
   have:=h.fits i hi
   refine zbJ (fun h2=>by omega) (fun _=>zb2 (by rw [hI];simp [-List.getD_eq_getElem?_getD];omega) (hK _ ?_))
   rw [zey hi',zmQ hi,hI]
 · simp only
   rw [hs]
   exact List.take_of_length_le (by unfold lotM;rw [List.length_map];exact Nat.le_refl _)
theorem zlQ {w:Wear} (V:WearOk w) {fuel:Nat} (hf:1000≤fuel) {P:List Int} {night known many:Int} (h:LotOk w P night known) (hm:0≤many∧many≤20) (hs:zcr w known (allS w known)):Wp (zcg fuel w P night known many) (fun r=>r.2=0∧LotV w P night known r.1):=by
 unfold zcg
 refine wp_bind (zpl V hf h hm) (fun y hy=>?_)
 obtain ⟨h1,h2⟩:=hy
 rw [h1]
 obtain ⟨b,e,hb⟩:=zhM h2.hung
 refine zpU (by simp [-List.getD_eq_getElem?_getD]) e ?_
 rw [hb.2 hs]
 exact za2 (by simp [-List.getD_eq_getElem?_getD]) (zax ⟨rfl,h2⟩)
noncomputable def lotLo (w:Wear) (P:List Int) (night known:Int) (n:Nat):Int:=za4 (fun i=>decide (stateR w known (allS w known) (fit w (P.getD i default) night known).toNat night=1)) (fun _=>1) n
noncomputable def lotHi (w:Wear) (P:List Int) (night known:Int) (n:Nat):Int:=za4 (fun i=>!decide (stateR w known (allS w known) (fit w (P.getD i default) night known).toNat night=0)) (fun _=>1) n
theorem zk6 (P:Nat→Bool) (n:Nat):0≤za4 P (fun _=>1) n∧za4 P (fun _=>1) n≤(n:Int):=by
 have:=zd2 (P:=P) (f:=fun _=>(1:Int)) (c:=1) (by decide) (n:=n) (fun i _=>by decide)
 omega
theorem zn2 {w:Wear} (V:WearOk w) {P:List Int} {night known:Int} (h:LotOk w P night known) {x:mantle_lot} (hx:LotV w P night known x):zbo x=some ⟨lotLo w P night known P.length,lotHi w P night known P.length⟩:=by
 have hl:=h.len
 unfold zbo
 have hlen:x.mantles.length=P.length:=by rw [hx.mantles];unfold lotM;rw [List.length_map]
 rw [hx.night,hlen,hx.mantles]
 refine Wp.eq (zdU (fun i s=>s=⟨lotLo w P night known i,lotHi w P night known i⟩) rfl (fun i s K hi hI hK=>?_) (fun s hs=>zax hs))
 subst hI
 rw [zmQ hi]
 have h0:=h.fits i hi
 have hlt:=zm1 w (P.getD i default) night known
 obtain ⟨m,hm⟩:∃ m:Nat,fit w (P.getD i default) night known=(m:Int):=⟨_,(Int.toNat_of_nonneg h0).symm⟩
 have hmn:(fit w (P.getD i default) night known).toNat=m:=by omega
 rw [hm] at hlt ⊢
 refine zaz (zmv V hx.hung (by omega) h.nOk.1) ?_
 have b1:=zk6 (fun i=>decide (stateR w known (allS w known) (fit w (P.getD i default) night known).toNat night=1)) i
 have b2:=zk6 (fun i=>!decide (stateR w known (allS w known) (fit w (P.getD i default) night known).toNat night=0)) i
 have bb1:0≤lotLo w P night known i∧lotLo w P night known i≤(i:Int):=b1
 have bb2:0≤lotHi w P night known i∧lotHi w P night known i≤(i:Int):=b2
 have e1:lotLo w P night known (i+1)=lotLo w P night known i+(if decide (stateR w known (allS w known) m night=1)=true then 1 else 0):=by
  rw [← hmn];rfl
 have e2:lotHi w P night known (i+1)=lotHi w P night known i+(if (!decide (stateR w known (allS w known) m night=0))=true then 1 else 0):=by
  rw [← hmn];rfl
 have c:=zh4 (w:=w) (known:=known) (S:=allS w known) (m:=m) (night:=night)
 refine zbJ (fun s1=>zai (by simp only;omega) (zai (by simp only;omega) (hK _ ?_))) (fun s1=>zbJ (fun s2=>zai (by simp only;omega) (hK _ ?_)) (fun s2=>hK _ ?_))
 · rw [e1,e2,s1];rfl
 · rw [e1,e2,s2];simp [-List.getD_eq_getElem?_getD]
 · have s0:stateR w known (allS w known) m night=0:=by
    rcases c with ⟨s,_⟩|⟨s,_⟩|⟨s,_⟩
    · exact s
    · exact absurd s s1
    · exact absurd s s2
   rw [e1,e2,s0];simp [-List.getD_eq_getElem?_getD]
theorem zof {w:Wear} (V:WearOk w) {fuel:Nat} (hf:1000≤fuel) {P:List Int} {night known:Int} (h:LotOk w P night known) (hs:zcr w known (allS w known)):zdy fuel w P night known=some (⟨lotLo w P night known P.length,lotHi w P night known P.length⟩,0):=by
 unfold zdy
 refine Wp.eq (wp_bind (zlQ V hf h (by omega) hs) (fun y hy=>?_))
 obtain ⟨h1,h2⟩:=hy
 rw [h1]
 exact za2 (by simp [-List.getD_eq_getElem?_getD]) (zaz (zn2 V h h2) (zax rfl))
def lot5 (w:Wear) (night known:Int):List Int:=([1,2,3,4,5]:List Int).filter (fun l=>decide (0≤fit w l night known))
theorem zpb {w:Wear} (V:WearOk w) {fuel:Nat} (hf:1000≤fuel) (night known:Int):zb7 fuel w night known=some (lot5 w night known):=by
 have nm:=V.nm
 unfold zb7
 refine Wp.eq (wp_loop (fun s=>∃ i:Nat,s.1=(i:Int)+1∧i≤5∧s.2=(([1,2,3,4,5]:List Int).take i).filter (fun l=>decide (0≤fit w l night known))) (fun s=>10 - s.1.toNat) (by simp only;omega) ⟨0,rfl,by omega,rfl⟩ (fun s K hI hK=>?_))
 obtain ⟨x,s⟩:=s
 obtain ⟨i,h1,h2,h3⟩:=hI
 simp only at h1 h3 hK ⊢
 subst h1
 have hl:s.length≤5:=by rw [h3];exact Nat.le_trans (List.length_filter_le _ _) (by rw [List.length_take];simp [-List.getD_eq_getElem?_getD];omega)
 by_cases hi:i<5
 · refine zcA (by simp [-List.getD_eq_getElem?_getD];omega) (zaz (at_eq (by omega) nm _ _ _) ?_)
   rw [atR_2]
   have hg:([1,2,3,4,5]:List Int).getD i default=(i:Int)+1:=by
    match i,hi with
    | 0,_=>rfl
    | 1,_=>rfl
    | 2,_=>rfl
    | 3,_=>rfl
    | 4,_=>rfl
   have hts:([1,2,3,4,5]:List Int).take (i+1)=([1,2,3,4,5]:List Int).take i++[(i:Int)+1]:=by
    rw [zey (by simp [-List.getD_eq_getElem?_getD];omega),hg]
   refine zbJ (fun h=>zb2 (by simp [-List.getD_eq_getElem?_getD];omega) (zai (by omega) (hK _ ⟨i+1,by simp [-List.getD_eq_getElem?_getD],by omega,?_⟩ (by simp only;omega)))) (fun h=>zai (by omega) (hK _ ⟨i+1,by simp [-List.getD_eq_getElem?_getD],by omega,?_⟩ (by simp only;omega)))
   · simp only
     rw [hts,List.filter_append,h3,List.filter_cons_of_pos (p:=fun l:Int=>decide (0≤fit w l night known)) (decide_eq_true h),List.filter_nil]
   · simp only
     rw [hts,List.filter_append,h3,List.filter_cons_of_neg (p:=fun l:Int=>decide (0≤fit w l night known)) (by rw [decide_eq_true_eq];exact h),List.filter_nil,List.append_nil]
 · have:i=5:=by omega
   subst this
   exact za2 (by simp [-List.getD_eq_getElem?_getD]) (zax h3)
theorem zqn {w:Wear} {night known:Int} (h0:(lot5 w night known).length≠0) (hn:zaS night) (hk:zaS known):LotOk w (lot5 w night known) night known:=by
 have hm:∀ x∈lot5 w night known,(1≤x∧x≤5)∧0≤fit w x night known:=fun x hx=>by
  obtain ⟨h1,h2⟩:=List.mem_filter.1 hx
  refine ⟨?_,of_decide_eq_true h2⟩
  simp only [List.mem_cons,List.not_mem_nil,or_false] at h1
  omega
 have hs:(lot5 w night known).Pairwise (· < ·):=List.Pairwise.sublist List.filter_sublist (by decide)
 have hlen:(lot5 w night known).length≤5:=Nat.le_trans (List.length_filter_le _ _) (by simp [-List.getD_eq_getElem?_getD])
 refine ⟨by omega,fun i hi=>?_,fun i h0 hi=>ltGet hs (by omega) hi,hn,hk,fun i hi=>(hm _ (zbR hi)).2⟩
 have:=(hm _ (zbR hi)).1
 omega
end Go.Sp
end
/- Plain laws, mantle: two looks; MantleTwo. No program in sight. -/
section
set_option linter.all false
namespace Go.Sp
open Go.Av
set_option maxRecDepth 100000
theorem ziI {w:Wear} {known:Int} {L:List Look} {m:Nat} {s:mantle_sight}:s∈sights w known L m↔∃ l∈L,fit w l.Lamp l.Night known=(m:Int)∧zar l.Known l.Until known=true∧s=toS l:=by
 rw [zj7,List.mem_map]
 constructor
 · rintro ⟨l,hl,e⟩
   obtain ⟨h1,h2⟩:=List.mem_filter.1 hl
   unfold zkS at h2
   rw [Bool.and_eq_true,decide_eq_true_eq] at h2
   exact ⟨l,h1,h2.1,h2.2,e.symm⟩
 · rintro ⟨l,hl,h1,h2,e⟩
   exact ⟨l,List.mem_filter.2 ⟨hl,by unfold zkS;rw [Bool.and_eq_true,decide_eq_true_eq];exact ⟨h1,h2⟩⟩,e.symm⟩
end Go.Sp
end
/- Plain laws, mantle: one look more; MantleLooked. No program in sight. -/
section
set_option linter.all false
namespace Go.Sp
open Go.Av
set_option maxRecDepth 100000
theorem zqs {T:Type} [Inhabited T] {ok:T→Prop} {num:T→Int} {l:List T} (h1:∀ x∈l,ok x) (h2:l.Pairwise (fun a b=>num a<num b)):zeN ok num l:=fun i hi=>⟨h1 _ (zbR hi),fun h0=>ze3 h2 (by omega) hi⟩
theorem zpq {w:Wear} (V:WearOk w) {x:Look} {k:Nat} (hk:InsAt w.Looks x k) (hx:zgg x) (hne:∀ y∈w.Looks,y.Source≠x.Source):zeN zgg (·.Source) (w.Looks.take k++[x]++w.Looks.drop k):=by
 have hs:=V.lo.sorted
 have hm:∀ y,y∈w.Looks.take k++[x]++w.Looks.drop k→y∈w.Looks∨y=x:=fun y hy=>by
  simp only [List.mem_append,List.mem_singleton] at hy
  rcases hy with (hy|hy)|hy
  · exact .inl (List.mem_of_mem_take hy)
  · exact .inr hy
  · exact .inl (List.mem_of_mem_drop hy)
 refine zqs (fun y hy=>?_) ?_
 · rcases hm y hy with hy|rfl
   · exact V.lo.ok hy
   · exact hx
 · have hlo:∀ a∈w.Looks.take k,a.Source<x.Source:=fun a ha=>by
    obtain ⟨q,hq,rfl⟩:=zc3 ha
    rw [List.length_take] at hq
    rw [getD_take,if_pos (by omega)]
    exact hk.lo q (by omega)
   have hhi:∀ a∈w.Looks.drop k,x.Source<a.Source:=fun a ha=>by
    obtain ⟨q,hq,rfl⟩:=zc3 ha
    rw [List.length_drop] at hq
    rw [getD_drop]
    have h1:=hk.hi (k+q) (by omega) (by omega)
    have h2:=hne _ (zbR (l:=w.Looks) (i:=k+q) (by omega))
    omega
   rw [List.pairwise_append,List.pairwise_append]
   refine ⟨⟨hs.sublist (List.take_sublist _ _),List.pairwise_singleton _ _,fun a ha b hb=>?_⟩,hs.sublist (List.drop_sublist _ _),fun a ha b hb=>?_⟩
   · rw [List.mem_singleton] at hb;rw [hb];exact hlo a ha
   · have h1:=hhi b hb
     rcases List.mem_append.1 ha with ha|ha
     · have:=hlo a ha;omega
     · rw [List.mem_singleton] at ha;rw [ha];exact h1
theorem zlJ {w:Wear} (V:WearOk w) {x:Look} {k:Nat} (hk:InsAt w.Looks x k) (hx:zgg x) (hne:∀ y∈w.Looks,y.Source≠x.Source) (hl:w.Looks.length<60):WearOk (zep w x k):=by
 have hle:=hk.le
 refine ⟨V.nb,V.nm,V.nu,?_,V.ba,V.ma,V.bu,zpq V hk hx hne,V.has⟩
 show (w.Looks.take k++[x]++w.Looks.drop k).length≤60
 simp only [List.length_append,List.length_take,List.length_drop,List.length_cons,List.length_nil]
 omega
theorem zoR {w:Wear} {known:Int} {S S':Nat→List mantle_sight} (hs:∀ m,∀ s∈S m,s∈S' m) {m:Nat} {night:Int} {bad:Bool} (h:zdL w known S' m night bad):zdL w known S m night bad:=by
 obtain ⟨x,⟨h1,h2⟩,h3⟩:=h
 refine ⟨x,⟨h1,fun i hi hb=>(h2 i hi hb).mono (hs i)⟩,h3.mono (fun s hm=>?_)⟩
 rcases List.mem_append.1 hm with hm|hm
 · exact List.mem_append.2 (.inl (hs m s hm))
 · exact List.mem_append.2 (.inr hm)
theorem zpN {w:Wear} {l:List Look} {known:Int} {S:Nat→List mantle_sight} {m:Nat} {night:Int} {bad:Bool}:zdL (zbr w l) known S m night bad↔zdL w known S m night bad:=by
 unfold zdL
 constructor
 · rintro ⟨x,⟨h1,h2⟩,h3⟩;exact ⟨x,⟨h1,fun i hi hb=>zhE.1 (h2 i hi hb)⟩,zhE.1 h3⟩
 · rintro ⟨x,⟨h1,h2⟩,h3⟩;exact ⟨x,⟨h1,fun i hi hb=>zhE.2 (h2 i hi hb)⟩,zhE.2 h3⟩
structure MoreL (w:Wear) (known:Int) (t:Lives) (L:List Look):Prop where
 ok:WearOk w
 tr:TrueT w t
 right:zjl w known t w.Looks
 ok2:WearOk (zbr w L)
 right2:zjl (zbr w L) known t L
 sub:∀ l∈w.Looks,l∈L
theorem MoreL.sights {w:Wear} {known:Int} {t:Lives} {L:List Look} (h:MoreL w known t L) (m:Nat):∀ s∈allS w known m,s∈allS (zbr w L) known m:=fun s hs=>by
 obtain ⟨l,hl,h1,h2,h3⟩:=ziI.1 hs
 refine ziI.2 ⟨l,h.sub l hl,?_,h2,h3⟩
 rw [zi4];exact h1
theorem MoreL.lives {w:Wear} {known:Int} {t:Lives} {L:List Look} (h:MoreL w known t L) {q:Nat} {x:Int} (hx:zew (zbr w L) known (allS (zbr w L) known) q x):zew w known (allS w known) q x:=by
 obtain ⟨h1,h2⟩:=zmo.1 hx
 exact ⟨h1,fun i hi hb=>(h2 i hi hb).mono (h.sights i)⟩
theorem MoreL.can {w:Wear} {known:Int} {t:Lives} {L:List Look} (h:MoreL w known t L) {m:Nat} {night:Int} {bad:Bool} (hc:zdL (zbr w L) known (allS (zbr w L) known) m night bad):zdL w known (allS w known) m night bad:=zoR h.sights (zpN.1 hc)
theorem MoreL.state {w:Wear} {known:Int} {t:Lives} {L:List Look} (h:MoreL w known t L) {m:Nat} (hm:m<w.Mantles.length) {night:Int} (h2:stateR w known (allS w known) m night≠2):stateR (zbr w L) known (allS (zbr w L) known) m night=stateR w known (allS w known) m night:=by
 have hc:=zpM h.ok2 (zj4 h.tr L) h.right2 (m:=m) hm night
 rcases zh4 (w:=w) (known:=known) (S:=allS w known) (m:=m) (night:=night) with ⟨s,k1⟩|⟨s,k1,k2⟩|⟨s,_⟩
 · rw [s];exact zmx (fun k=>k1 (h.can k))
 · have n2:¬ zdL (zbr w L) known (allS (zbr w L) known) m night false:=fun k=>k2 (h.can k)
   rw [s]
   refine zmw ?_ n2
   cases hb:tBad (zbr w L) known t m night with
   | true=>rw [hb] at hc;exact hc
   | false=>rw [hb] at hc;exact absurd hc n2
 · exact absurd s h2
theorem zh3 {P Q:Nat→Bool} {n:Nat} (h:∀ i,i<n→P i=true→Q i=true):za4 P (fun _=>1) n≤za4 Q (fun _=>1) n:=zfJ (fun _ _=>by decide) h
theorem zpk {w:Wear} {l:List Look} {P:List Int} {night known:Int} (h:LotOk w P night known):LotOk (zbr w l) P night known:=⟨h.len,h.lamp,h.ris,h.nOk,h.kOk,fun i hi=>by rw [zi4];exact h.fits i hi⟩
theorem zmn {w:Wear} (V:WearOk w) {i:Nat} (hi:i<w.Batches.length):zcY w (ba w i).Id=(i:Int):=by
 have h0:0≤zcY w (ba w i).Id:=by
  rcases Int.lt_or_le (zcY w (ba w i).Id) 0 with h|h
  · exact absurd ⟨i,hi,rfl⟩ (zgw.1 h)
  · exact h
 have h1:=zjj w (ba w i).Id
 have:=zpY V (i:=(zcY w (ba w i).Id).toNat) (by omega) hi (zlB h0)
 omega
theorem zh0 (r:gasolierref06_Raw) (q:List Int) (n:Arr4 Int):zaZ 1000 r q n=some true:=by
 unfold zaZ
 refine Wp.eq (zaz znP (wp_bind (zdi (by omega)) (fun night hn=>wp_bind (zdi (by omega)) (fun known hk=>wp_bind (zqm (by omega) r q) (fun z hz=>?_)))))
 obtain ⟨w0,t⟩:=z
 simp only at hz ⊢
 refine zaz (zmB hz.ok hz.tr (by omega) known) (wp_bind (zdi (by omega)) (fun a ha=>zai (by omega) (wp_bind (zdi (by omega)) (fun nn hnn=>?_))))
 have V:=zkW hz.ok known t
 have hT:TrueT (zfM w0 known t) t:=zj4 hz.tr _
 have hR:=zh8 w0 known t
 have hlen:(zfM w0 known t).Looks.length≤6:=by
  show (zdD w0 known t w0.Looks).length≤6
  rw [zcv];exact hz.looks
 have hsrc:∀ l∈(zfM w0 known t).Looks,l.Source≤60:=fun l hl=>by
  have hl':l∈zdD w0 known t w0.Looks:=hl
  unfold zdD at hl'
  rw [List.mem_map] at hl'
  obtain ⟨l0,h0,rfl⟩:=hl'
  exact hz.src l0 h0
 generalize zfM w0 known t=w at V hT hR hlen hsrc ⊢
 have hs:zcr w known (allS w known):=zh5 V hT hR
 obtain ⟨k,hk⟩:=zps V.lo (⟨90,(1+a),nn,false,known,0⟩:Look)
 have hx:zgg (⟨90,(1+a),nn,false,known,0⟩:Look):=⟨by simp only;omega,by simp only;omega,by simp only;omega,by simp only;omega,.inl rfl⟩
 have hne:∀ y∈w.Looks,y.Source≠(⟨90,(1+a),nn,false,known,0⟩:Look).Source:=fun y hy=>by
  have:=hsrc y hy
  simp only;omega
 refine zaz (mlooked V hk (by omega)) ?_
 have hlr:zkd w (⟨90,(1+a),nn,false,known,0⟩:Look) k=(zep w (⟨90,(1+a),nn,false,known,0⟩:Look) k,0):=by
  unfold zkd
  have e1:((!decide (zaV (⟨90,(1+a),nn,false,known,0⟩:Look)=0)) || (decide (k<w.Looks.length) && decide ((w.Looks.getD k default).Source=(⟨90,(1+a),nn,false,known,0⟩:Look).Source)))=false:=by
   rw [Bool.or_eq_false_iff]
   refine ⟨by rw [zjJ.2 hx];rfl,?_⟩
   rw [Bool.and_eq_false_iff,decide_eq_false_iff_not,decide_eq_false_iff_not]
   by_cases hkl:k<w.Looks.length
   · exact .inr (hne _ (zbR hkl))
   · exact .inl hkl
  rw [e1]
  have e2:decide (w.Looks.length=60)=false:=by rw [decide_eq_false_iff_not];omega
  rw [e2];rfl
 rw [hlr]
 refine za2 (by simp [-List.getD_eq_getElem?_getD]) ?_
 have V2:=zlJ V hk hx hne (by omega)
 have hT2:TrueT (zep w (⟨90,(1+a),nn,false,known,0⟩:Look) k) t:=⟨hT.nl,hT.lives,hT.nm,hT.mins⟩
 refine zaz (zmB V2 hT2 (by omega) known) ?_
 have hM:∃ L,zfM (zep w (⟨90,(1+a),nn,false,known,0⟩:Look) k) known t=zbr w L∧MoreL w known t L:=by
  refine ⟨_,rfl,V,hT,hR,zkW V2 known t,zh8 (zep w (⟨90,(1+a),nn,false,known,0⟩:Look) k) known t,fun l hl=>?_⟩
  show l∈zdD (zep w (⟨90,(1+a),nn,false,known,0⟩:Look) k) known t (w.Looks.take k++[(⟨90,(1+a),nn,false,known,0⟩:Look)]++w.Looks.drop k)
  unfold zdD
  rw [List.mem_map]
  refine ⟨l,?_,?_⟩
  · have:l∈w.Looks.take k++w.Looks.drop k:=by rw [List.take_append_drop];exact hl
    simp only [List.mem_append,List.mem_singleton] at this ⊢
    rcases this with h|h
    · exact .inl (.inl h)
    · exact .inr h
  · have e1:=hR l hl
    have e2:=zna w (w.Looks.take k++[(⟨90,(1+a),nn,false,known,0⟩:Look)]++w.Looks.drop k) known t l.Lamp l.Night
    have e3:zjw (zep w (⟨90,(1+a),nn,false,known,0⟩:Look) k) known t l.Lamp l.Night=l.Bad:=e2.trans e1.symm
    rw [e3]
 obtain ⟨L,eL,hM⟩:=hM
 rw [eL]
 have hs2:zcr (zbr w L) known (allS (zbr w L) known):=zh5 hM.ok2 (zj4 hT L) hM.right2
 have hkn:zaS known:=⟨by omega,by omega⟩
 have hni:zaS night:=⟨by omega,by omega⟩
 obtain ⟨b,b1,b2⟩:=zoe hM.ok2.fits (fuel:=1000) (by omega) known
 obtain ⟨e0,e1⟩:=b2.ok hM.ok2 hkn
 refine zaz b1 ?_
 rw [e0,e1.2 hs2]
 refine za2 (by simp [-List.getD_eq_getElem?_getD]) ?_
 have nb:=V.nb
 refine zj3 (n:=w.Batches.length) (by omega) (fun _=>True) (fun i K hi _ hK=>?_) (fun _ K=>za2 (by simp [-List.getD_eq_getElem?_getD]) ?_)
 · refine zcA (by simp [-List.getD_eq_getElem?_getD];omega) (zaw (by omega) ?_)
   simp only [Int.toNat_natCast]
   obtain ⟨c,c1,c2⟩:=zmP V.fits (fuel:=1000) (by omega) (w.Batches.getD i default).Id known
   obtain ⟨d,d1,d2⟩:=zmP hM.ok2.fits (fuel:=1000) (by omega) (w.Batches.getD i default).Id known
   have hbi:zcY w (w.Batches.getD i default).Id=(i:Int):=zmn V hi
   have hbi2:zcY (zbr w L) (w.Batches.getD i default).Id=(i:Int):=hbi
   obtain ⟨c3,c4⟩:=c2.ok V hkn (by omega) hs
   obtain ⟨d3,d4⟩:=d2.ok hM.ok2 hkn (by omega) hs2
   rw [hbi,Int.toNat_natCast] at c4
   rw [hbi2,Int.toNat_natCast] at d4
   refine zaz c1 (zaw (by omega) (zaz d1 (za2 ?_ (zai (by omega) (hK trivial)))))
   obtain ⟨y,hy⟩:=hs2 i hi
   have hy':=(d4 y).2 hy
   unfold inR at hy'
   have a1:=(c4 d.1.Lo).2 (hM.lives ((d4 d.1.Lo).1 ⟨Int.le_refl _,by omega⟩))
   have a2:=(c4 d.1.Hi).2 (hM.lives ((d4 d.1.Hi).1 ⟨by omega,Int.le_refl _⟩))
   unfold inR at a1 a2
   rw [c3,d3]
   simp only [decide_true,Bool.not_true,Bool.or_self,Bool.false_or,Bool.or_eq_false_iff,decide_eq_false_iff_not]
   exact ⟨by omega,by omega⟩
 refine zaz (zpb V (by omega) night known) ?_
 refine zbJ (fun _=>zax rfl) (fun h0=>?_)
 have hP:=zqn (w:=w) (night:=night) (known:=known) (by omega) hni hkn
 generalize lot5 w night known=P at hP ⊢
 have hP2:LotOk (zbr w L) P night known:=zpk hP
 have hPl:=hP.len
 refine zaz (zof V (by omega) hP hs) (zaz (zof hM.ok2 (by omega) hP2 hs2) ?_)
 have hst:∀ i,i<P.length→stateR w known (allS w known) (fit w (P.getD i default) night known).toNat night≠2→stateR (zbr w L) known (allS (zbr w L) known) (fit (zbr w L) (P.getD i default) night known).toNat night=stateR w known (allS w known) (fit w (P.getD i default) night known).toNat night:=fun i hi h2=>by
  rw [zi4]
  have h3:=hP.fits i hi
  have h4:=zm1 w (P.getD i default) night known
  exact hM.state (by omega) h2
 have g1:lotLo w P night known P.length≤lotLo (zbr w L) P night known P.length:=zh3 (fun i hi hp=>by
  have hp:=of_decide_eq_true hp
  rw [decide_eq_true_eq,hst i hi (by omega)];exact hp)
 have g2:lotHi (zbr w L) P night known P.length≤lotHi w P night known P.length:=zh3 (fun i hi hp=>by
  simp only [Bool.not_eq_true',decide_eq_false_iff_not] at hp ⊢
  intro hz0
  exact hp ((hst i hi (by omega)).trans hz0))
 refine za2 (by
  simp only [decide_true,Bool.not_true,Bool.or_self,Bool.false_or,Bool.or_eq_false_iff,decide_eq_false_iff_not]
  exact ⟨by omega,by omega⟩) ?_
 refine zj3 (n:=P.length) (by omega) (fun _=>True) (fun i K hi _ hK=>?_) (fun _ K=>za2 (by simp [-List.getD_eq_getElem?_getD]) (zax rfl))
 refine zcA (by simp [-List.getD_eq_getElem?_getD];omega) (zaw (by omega) ?_)
 simp only [Int.toNat_natCast]
 refine zaz (zk5 V (by omega) _ _ _) (zaw (by omega) (zaz (zk5 hM.ok2 (by omega) _ _ _) ?_))
 have l1:=hP.lamp i hi
 have f1:=hP.fits i hi
 have le1:zbW w (P.getD i default) night known=0:=zlc l1 ⟨hni,hkn⟩ (by omega)
 have le2:zbW (zbr w L) (P.getD i default) night known=0:=by rw [zns];exact le1
 rw [ziH le1 hs,ziH le2 hs2]
 refine za2 ?_ (zai (by omega) (hK trivial))
 simp only [decide_true,Bool.not_true,Bool.or_self,Bool.false_or,Bool.and_eq_false_iff,Bool.not_eq_false',decide_eq_true_eq]
 by_cases h2:stateR w known (allS w known) (fit w (P.getD i default) night known).toNat night=2
 · exact .inl h2
 · exact .inr (hst i hi h2)
end Go.Sp
end
