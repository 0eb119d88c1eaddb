/- Texts of the framework, or of the plain law, one behind another. -/
import Derived.Test.YtakjeajlmlmkeaaGreatFr1
import Derived.Test.YtakjeajlmlmkeaaGreatFr5
import Derived.KernelRfl
/- Rules for plain laws: what a printed definition yields. No program in sight. -/
section
set_option linter.all false
namespace Go.Sp
open Go.Av
def Wp {R:Type} (x:Option R) (P:R→Prop):Prop:=∃ r,x=some r∧P r
theorem Wp.eq {R:Type} {x:Option R} {v:R} (h:Wp x (· = v)):x=some v:=by
 obtain ⟨r,h1,h2⟩:=h;rw [h1,h2]
theorem zaL {R:Type} {r:R} {P:R→Prop} (h:P r):Wp (some r) P:=⟨r,rfl,h⟩
theorem zaJ {R:Type} {c:Prop} [Decidable c] {x:Option R} {P:R→Prop} (h:c) (k:Wp x P):Wp (must c x) P:=by
 unfold must;rw [if_pos h];exact k
theorem wp_bind {S R:Type} {x:Option S} {k:S→Option R} {P:R→Prop} {Q:S→Prop} (h:Wp x Q) (hk:∀ s,Q s→Wp (k s) P):Wp (zas x k) P:=by
 obtain ⟨r,h1,h2⟩:=h;rw [h1];exact hk r h2
theorem zbm {S R:Type} {x:Option S} {k:S→Option R} {P:R→Prop} {v:S} (h:x=some v) (hk:Wp (k v) P):Wp (zas x k) P:=by
 rw [h];exact hk
theorem zeU {R:Type} {b:Bool} {x y:Option R} {P:R→Prop} (h1:b=true→Wp x P) (h2:b=false→Wp y P):Wp (bif b then x else y) P:=by
 cases b
 · exact h2 rfl
 · exact h1 rfl
theorem wp_if {R:Type} {p:Prop} {b:Bool} {x y:Option R} {P:R→Prop} (hb:b=true↔p) (h1:p→Wp x P) (h2:¬ p→Wp y P):Wp (bif b then x else y) P:=
 zeU (fun h=>h1 (hb.1 h)) (fun h=>h2 (fun hp=>by rw [hb.2 hp] at h;cases h))
theorem zhr {R:Type} {p:Prop} [Decidable p] {x y:Option R} {P:R→Prop} (h1:p→Wp x P) (h2:¬ p→Wp y P):Wp (bif (decide p) then x else y) P:=
 wp_if (decide_eq_true_iff) h1 h2
theorem zdi {R:Type} {b:Bool} {x y:Option R} {P:R→Prop} (h:b=true) (h1:Wp x P):Wp (bif b then x else y) P:=by rw [h];exact h1
theorem zcx {R:Type} {b:Bool} {x y:Option R} {P:R→Prop} (h:b=false) (h1:Wp y P):Wp (bif b then x else y) P:=by rw [h];exact h1
theorem zmS {S R:Type} {body:Nat→S→(S→Option R)→Option R} {ex:S→Option R} {n:Nat} {s0:S} {P:R→Prop} (Inv:Nat→S→Prop) (h0:Inv 0 s0)
 (hb:∀ (i:Nat) s (K:S→Option R),i<n→Inv i s→(∀ s',Inv (i+1) s'→Wp (K s') P)→Wp (body i s K) P) (he:∀ s,Inv n s→Wp (ex s) P):Wp (zau body ex n 0 s0) P:=by
 have go:∀ (m i:Nat),i+m=n→∀ s,Inv i s→Wp (zau body ex m i s) P:=by
  intro m
  induction m with
  | zero=>intro i hi s hs;have e:i=n:=(by omega);subst e;exact he s hs
  | succ m ih=>intro i hi s hs;exact hb i s _ (by omega) hs (fun s' h'=>ih (i+1) (by omega) s' h')
 exact go n 0 (by omega) s0 h0
theorem wp_loop {S R:Type} {body:S→(S→Option R)→Option R} {fuel:Nat} {s0:S} {P:R→Prop} (Inv:S→Prop) (μ:S→Nat) (hf:μ s0<fuel) (h0:Inv s0)
 (hb:∀ s (K:S→Option R),Inv s→(∀ s',Inv s'→μ s'<μ s→Wp (K s') P)→Wp (body s K) P):Wp (loopGo body fuel s0) P:=by
 have go:∀ (f:Nat) s,Inv s→μ s<f→Wp (loopGo body f s) P:=by
  intro f
  induction f with
  | zero=>intro s _ h;omega
  | succ f ih=>intro s hs hm;exact hb s _ hs (fun s' h' hl=>ih s' h' (by omega))
 exact go fuel s0 h0 hf
theorem wp_for {S R:Type} {body:(Int×S)→((Int×S)→Option R)→Option R} {fuel:Nat} {s0:S} {P:R→Prop} (n:Nat) (hf:n<fuel) (Inv:Nat→S→Prop) (h0:Inv 0 s0)
 (hb:∀ (i:Nat) s (K:(Int×S)→Option R),i≤n→Inv i s→(∀ s',i<n→Inv (i+1) s'→Wp (K ((i:Int)+1,s')) P)→Wp (body ((i:Int),s) K) P):Wp (loopGo body fuel (0,s0)) P:=by
 have go:∀ (f i:Nat) s,i≤n→n - i<f→Inv i s→Wp (loopGo body f ((i:Int),s)) P:=by
  intro f
  induction f with
  | zero=>intro i s _ h;omega
  | succ f ih=>intro i s hi hm hs;exact hb i s _ hi hs (fun s' hl h'=>ih (i+1) s' (by omega) (by omega) h')
 exact go fuel 0 s0 (by omega) (by omega) h0
theorem znE {R:Type} {body:Int→(Int→Option R)→Option R} {fuel:Nat} {P:R→Prop} (n:Nat) (hf:n<fuel) (Inv:Nat→Prop) (h0:Inv 0)
 (hb:∀ (i:Nat) (K:Int→Option R),i≤n→Inv i→(i<n→Inv (i+1)→Wp (K ((i:Int)+1)) P)→Wp (body (i:Int) K) P):Wp (loopGo body fuel 0) P:=by
 have go:∀ (f i:Nat),i≤n→n - i<f→Inv i→Wp (loopGo body f (i:Int)) P:=by
  intro f
  induction f with
  | zero=>intro i _ h;omega
  | succ f ih=>intro i hi hm hs;exact hb i _ hi hs (fun hl h'=>ih (i+1) (by omega) (by omega) h')
 exact go fuel 0 (by omega) (by omega) h0
theorem zhs {S R:Type} {body:(S×Int)→((S×Int)→Option R)→Option R} {fuel:Nat} {s0:S} {P:R→Prop} (n:Nat) (hf:n<fuel) (Inv:Nat→S→Prop) (h0:Inv 0 s0)
 (hb:∀ (i:Nat) s (K:(S×Int)→Option R),i≤n→Inv i s→(∀ s',i<n→Inv (i+1) s'→Wp (K (s',(i:Int)+1)) P)→Wp (body (s,(i:Int)) K) P):Wp (loopGo body fuel (s0,0)) P:=by
 have go:∀ (f i:Nat) s,i≤n→n - i<f→Inv i s→Wp (loopGo body f (s,(i:Int))) P:=by
  intro f
  induction f with
  | zero=>intro i s _ h;omega
  | succ f ih=>intro i s hi hm hs;exact hb i s _ hi hs (fun s' hl h'=>ih (i+1) s' (by omega) (by omega) h')
 exact go fuel 0 s0 (by omega) (by omega) h0
end Go.Sp
end
/- More rules for plain laws. No program in sight. -/
section
set_option linter.all false
namespace Go.Sp
open Go.Av
theorem zdr {R:Type} {n:Int} {x:Option R} {P:R→Prop} (h : -9223372036854775808≤n∧n≤9223372036854775807) (k:Wp x P):Wp (must (inI n) x) P:=zaJ h k
theorem zlO {S R:Type} [Inhabited S] {W:Bool} {x:Option S} {k:S→Option R} {P:R→Prop} {Q:S→Prop} (h:W=true→Wp x Q) (hk:∀ s,(W=true→Q s)→Wp (k s) P):Wp (zas (bif W then x else some default) k) P:=by
 cases W
 · exact hk _ (fun h=>by cases h)
 · exact wp_bind (h rfl) (fun s hs=>hk s (fun _=>hs))
end Go.Sp
end
/- Rules for plain laws, more of them. No program in sight. -/
section
set_option linter.all false
namespace Go.Sp
open Go.Av
theorem zjt {R:Type} {body:Nat→Unit→(Unit→Option R)→Option R} {ex:Unit→Option R} {n:Nat} {P:R→Prop} (good:Nat→Prop)
 (hb:∀ (i:Nat) (K:Option R),i<n→(∀ j,j<i→good j)→(good i→Wp K P)→Wp (body i () (fun _=>K)) P) (he:(∀ j,j<n→good j)→Wp (ex ()) P):Wp (zau body ex n 0 ()) P:=by
 refine zmS (fun i _=>∀ j,j<i→good j) (fun j hj=>by omega) (fun i s K hi hI hK=>?_) (fun s hs=>he hs)
 have e:K=fun _=>K ():=funext fun u=>rfl
 rw [e]
 exact hb i (K ()) hi hI (fun g=>hK () (fun j hj=>by
  by_cases e:j=i
  · rw [e];exact g
  · exact hI j (by omega)))
theorem zik {S R:Type} {W:Bool} {x y:Option S} {k:S→Option R} {P:R→Prop} {v:S} (hW:W=true) (h:x=some v) (hk:Wp (k v) P):Wp (zas (bif W then x else y) k) P:=by
 subst hW;rw [h];exact hk
theorem znD {S R:Type} {W:Bool} {x y:Option S} {k:S→Option R} {P:R→Prop} {v:S} (hW:W=false) (h:y=some v) (hk:Wp (k v) P):Wp (zas (bif W then x else y) k) P:=by
 subst hW;rw [h];exact hk
theorem zgq {R:Type} {c:Prop} [Decidable c] (h:c) (x:Option R):must c x=x:=if_pos h
theorem zi2 {T:Type} [Inhabited T] {l:List T} {i:Nat} (h:i<l.length):l.getD i default∈l:=by
 rw [List.getD_eq_getElem?_getD,List.getElem?_eq_getElem h];exact List.getElem_mem h
theorem ziS {T:Type} [Inhabited T] {l:List T} {x:T} (h:x∈l):∃ i,i<l.length∧l.getD i default=x:=by
 obtain ⟨i,hi,rfl⟩:=List.getElem_of_mem h
 exact ⟨i,hi,by rw [List.getD_eq_getElem?_getD,List.getElem?_eq_getElem hi];rfl⟩
theorem zng {x:Int} {j:Nat} (h:0≤x):Int.fdiv x (2 ^ j)=((x.toNat >>> j:Nat):Int):=by
 obtain ⟨n,rfl⟩:=Int.eq_ofNat_of_zero_le h
 rw [Int.toNat_natCast,Nat.shiftRight_eq_div_pow]
 have:(2:Int) ^ j=((2 ^ j:Nat):Int):=by simp
 rw [this,Int.fdiv_eq_ediv_of_nonneg _ (Int.natCast_nonneg _)]
 exact (Int.natCast_ediv _ _).symm
end Go.Sp
end
/- Binary search, and insertion into a sorted list. No program in sight. -/
section
set_option linter.all false
namespace Go.Sp
open Go.Av
def bsF {T E:Type} [Inhabited T] (fuel:Nat) (p0:List T) (p1:E) (p2:T→E→Option Int):Option (Int×Bool):=
 (loopGo (fun (s1:Int×Int) k1=>(bif (decide (s1.2<s1.1)) then must (inI (s1.2+s1.1)) <| must (inU (s1.2+s1.1)) <| must (inI (Int.fdiv (s1.2+s1.1) (2 ^ (1:Int).toNat))) <| must (0≤((Int.fdiv (s1.2+s1.1) (2 ^ (1:Int).toNat)):Int)∧((Int.fdiv (s1.2+s1.1) (2 ^ (1:Int).toNat)):Int)<((p0.length:Nat):Int)) <| zas (p2 (p0.getD ((Int.fdiv (s1.2+s1.1) (2 ^ (1:Int).toNat))).toNat default) p1) fun y7=>(bif (decide (y7<0)) then must (inI ((Int.fdiv (s1.2+s1.1) (2 ^ (1:Int).toNat))+1)) <| k1 (s1.1,((Int.fdiv (s1.2+s1.1) (2 ^ (1:Int).toNat))+1)) else k1 ((Int.fdiv (s1.2+s1.1) (2 ^ (1:Int).toNat)),s1.2)) else must (((decide (s1.2<((p0.length:Nat):Int)))=true→(0≤(s1.2:Int)∧(s1.2:Int)<((p0.length:Nat):Int)))) <| zas ((bif (decide (s1.2<((p0.length:Nat):Int))) then p2 (p0.getD (s1.2).toNat default) p1 else some default)) fun y12=>some (s1.2,((decide (s1.2<((p0.length:Nat):Int))) && (decide (y12=0)))))) fuel (((p0.length:Nat):Int),0))
theorem bsF_eq {T E:Type} [Inhabited T] {fuel:Nat} (l:List T) (x:E) {p2:T→E→Option Int} {c:T→Int} (hp:∀ t,p2 t x=some (c t)) {k:Nat} (hk:k≤l.length)
 (h1:∀ i,i<k→c (l.getD i default)<0) (h2:∀ i,k≤i→i<l.length→0≤c (l.getD i default)) (hl:l.length≤1000000000) (hf:l.length<fuel) :
 bsF fuel l x p2=some ((k:Int),decide (k<l.length) && decide (c (l.getD k default)=0)):=by
 unfold bsF
 refine Wp.eq (wp_loop (fun s=>∃ lo hi:Nat,s=((hi:Int),(lo:Int))∧lo≤k∧k≤hi∧hi≤l.length) (fun s=>(s.1 - s.2).toNat) (by simp only;omega) ⟨0,l.length,rfl,by omega,hk,by omega⟩ ?_)
 rintro _ K ⟨lo,hi,rfl,a1,a2,a3⟩ hK
 simp only at hK ⊢
 refine zhr (fun hlt=>?_) (fun hge=>?_)
 · have e2:Int.fdiv ((lo:Int)+hi) (2 ^ (1:Int).toNat)=(((lo+hi) / 2:Nat):Int):=by
    rw [show (1:Int).toNat=1 from rfl,zng (by omega),show ((lo:Int)+hi).toNat=lo+hi by omega,Nat.shiftRight_eq_div_pow]
   rw [e2]
   generalize hm:(lo+hi) / 2=m
   refine zdr (by omega) (zaJ (by unfold inU;omega) (zdr (by omega) (zaJ (by omega) (zbm (hp _) ?_))))
   rw [Int.toNat_natCast]
   refine zhr (fun hc=>?_) (fun hc=>?_)
   · refine zdr (by omega) (hK _ ⟨m+1,hi,by simp,?_,a2,a3⟩ (by simp only;omega))
     rcases Nat.lt_or_ge m k with h|h
     · omega
     · have:=h2 m h (by omega);omega
   · refine hK _ ⟨lo,m,rfl,a1,?_,by omega⟩ (by simp only;omega)
     rcases Nat.lt_or_ge m k with h|h
     · exact absurd (h1 m h) hc
     · exact h
 · have elo:lo=k:=by omega
   subst elo
   refine zaJ (fun h=>by have:=of_decide_eq_true h;omega) ?_
   by_cases hlt:(lo:Int)<(l.length:Int)
   · refine zik (by simp;omega) (hp _) (zaL ?_)
     rw [Int.toNat_natCast]
     congr 2
     simp
   · refine znD (by simp;omega) rfl (zaL ?_)
     have e1:decide ((lo:Int)<(l.length:Int))=false:=by simp;omega
     have e2:decide (lo<l.length)=false:=by simp;omega
     rw [e1,e2];rfl
theorem zkV {A:Nat→Prop}:∀ (n:Nat),(∀ i j,i<j→j<n→A j→A i)→∃ k,k≤n∧(∀ i,i<k→A i)∧∀ i,k≤i→i<n→¬ A i
 | 0,_=>⟨0,Nat.le_refl _,fun i h=>absurd h (Nat.not_lt_zero _),fun i _ h=>absurd h (Nat.not_lt_zero _)⟩
 | n+1,hm=>by
  obtain ⟨k,h1,h2,h3⟩:=zkV n (fun i j hij hj=>hm i j hij (by omega))
  by_cases hn:A n
  · refine ⟨n+1,Nat.le_refl _,fun i hi=>?_,fun i h4 h5=>by omega⟩
    rcases Nat.lt_or_ge i n with h|h
    · exact hm i n h (by omega) hn
    · have:i=n:=by omega
      rw [this];exact hn
  · refine ⟨k,by omega,h2,fun i h4 h5=>?_⟩
    rcases Nat.lt_or_ge i n with h|h
    · exact h3 i h4 h
    · have:i=n:=by omega
      rw [this];exact hn
theorem zhu {T:Type} [Inhabited T] {p:T→Bool}:∀ (l:List T) (k:Nat),k≤l.length→(∀ i,i<k→p (l.getD i default)=true)→(k<l.length→p (l.getD k default)=false)→l.takeWhile p=l.take k∧l.dropWhile p=l.drop k
 | [],k,hk,_,_=>by simp
 | a::l,0,hk,h1,h2=>by
  have:=h2 (by simp)
  simp at this
  simp [this]
 | a::l,k+1,hk,h1,h2=>by
  have h0:=h1 0 (by omega)
  simp at h0
  obtain ⟨q1,q2⟩:=zhu l k (by simpa using hk) (fun i hi=>by simpa using h1 (i+1) (by omega)) (fun hi=>by simpa using h2 (by simpa using hi))
  simp [h0,q1,q2]
theorem zlM {T:Type} [Inhabited T] (f:T→Int) {l:List T} (h:∀ i,0<i→i<l.length→f (l.getD (i - 1) default)<f (l.getD i default)):l.Pairwise (fun a b=>f a<f b):=by
 rw [List.pairwise_iff_getElem]
 intro i j hi hj hij
 have step:∀ k,i+1+k<l.length→f l[i]<f (l.getD (i+1+k) default):=by
  intro k
  induction k with
  | zero=>
   intro hk
   have:=h (i+1) (by omega) hk
   have e:l.getD (i+1 - 1) default=l[i]:=by simp [List.getElem?_eq_getElem hi]
   rw [e] at this;exact this
  | succ k ih=>
   intro hk
   have h1:=ih (by omega)
   have h2:=h (i+1+(k+1)) (by omega) hk
   have e:i+1+(k+1) - 1=i+1+k:=by omega
   rw [e] at h2;omega
 have:=step (j - i - 1) (by omega)
 have e:i+1+(j - i - 1)=j:=by omega
 rw [e] at this
 simpa [List.getElem?_eq_getElem hj] using this
theorem zhA {T:Type} [Inhabited T] {f:T→Int} {l:List T} (hs:l.Pairwise (fun a b=>f a<f b)) {i j:Nat} (hij:i<j) (hj:j<l.length):f (l.getD i default)<f (l.getD j default):=by
 have:=List.pairwise_iff_getElem.1 hs i j (by omega) hj hij
 simpa [List.getElem?_eq_getElem hj,List.getElem?_eq_getElem (show i<l.length by omega)] using this
theorem zju {T:Type} [Inhabited T] (f:T→Int) {l:List T} (hs:l.Pairwise (fun a b=>f a<f b)) (s:Int):∃ k,k≤l.length∧(∀ i,i<k→f (l.getD i default)<s)∧(∀ i,k≤i→i<l.length→¬ f (l.getD i default)<s) ∧
 ((∀ y∈l,f y≠s)↔¬ (k<l.length∧f (l.getD k default)=s))∧l.takeWhile (fun y=>decide (f y<s))=l.take k∧l.dropWhile (fun y=>decide (f y<s))=l.drop k:=by
 obtain ⟨k,k1,k2,k3⟩:=zkV (A:=fun i=>f (l.getD i default)<s) l.length (fun i j hij hj h=>Int.lt_trans (zhA hs hij hj) h)
 refine ⟨k,k1,k2,k3,⟨fun h hk=>h _ (zi2 hk.1) hk.2,fun h y hy e=>?_⟩,zhu l k k1 (fun i hi=>decide_eq_true (k2 i hi)) (fun hk=>decide_eq_false (k3 k (Nat.le_refl _) hk))⟩
 obtain ⟨i,hi,rfl⟩:=ziS hy
 rcases Nat.lt_trichotomy i k with hik|hik|hik
 · have:=k2 i hik;omega
 · subst hik;exact h ⟨hi,e⟩
 · have h1:=zhA hs hik hi
   have h2:=k3 k (Nat.le_refl _) (by omega)
   omega
end Go.Sp
end
/- slices.IndexFunc and slices.DeleteFunc, as they are printed. No program in sight. -/
section
set_option linter.all false
namespace Go.Sp
open Go.Av
set_option maxRecDepth 100000
theorem zg6 {T:Type} [Inhabited T] {p:T→Option Bool} {q:T→Bool} (hp:∀ x,p x=some (q x)) (l:List T) :
 (zau (fun i1 (s1:Unit) k1=>zas (p (l.getD i1 default)) fun y3=>(bif y3 then some (i1:Int) else k1 ())) (fun (s1:Unit)=>some (-1)) l.length 0 ():Option Int)=some (match l.findIdx? q with|some i=>(i:Int)|none=>-1):=by
 refine (zjt (P:=fun r=>r=(match l.findIdx? q with|some i=>(i:Int)|none=>-1)) (fun i=>q (l.getD i default)=false) (fun i K hi hb hK=>?_) (fun h1=>?_)).eq
 · rw [hp]
   refine zeU (fun h=>zaL ?_) (fun h=>hK h)
   have:l.findIdx? q=some i:=by
    rw [List.findIdx?_eq_some_iff_getElem]
    refine ⟨hi,?_,fun j hj=>?_⟩
    · rw [List.getD_eq_getElem?_getD,List.getElem?_eq_getElem hi] at h;exact h
    · have:=hb j hj
      rw [List.getD_eq_getElem?_getD,List.getElem?_eq_getElem (by omega)] at this
      simpa using this
   rw [this]
 · refine zaL ?_
   have:l.findIdx? q=none:=by
    rw [List.findIdx?_eq_none_iff]
    intro x hx
    obtain ⟨i,hi,rfl⟩:=ziS hx
    exact h1 i hi
   rw [this]
end Go.Sp
end
/- Plain laws, mantle: valid batches, mantles, burns, looks and wears, checked by both. No program in sight. -/
section
set_option linter.all false
namespace Go.Sp
open Go.Av
set_option maxRecDepth 100000
structure BatchOk (b:Batch):Prop where
 id:1≤b.Id∧b.Id≤99
 life:0≤b.Life.Lo∧b.Life.Lo≤b.Life.Hi∧b.Life.Hi≤1000000
structure ToldOk (s l n k u:Int):Prop where
 src:1≤s∧s≤99999
 lamp:1≤l∧l≤999
 night:0≤n∧n≤100000
 known:0≤k∧k≤100000
 til:u=0∨(k<u∧u≤100000)
structure MantleOk (m:Mantle):Prop where
 told:ToldOk m.Source m.Lamp m.Night m.Known m.Until
 batch:1≤m.Batch∧m.Batch≤99
structure BurnOk (b:Burn):Prop where
 told:ToldOk b.Source b.Lamp b.Night b.Known b.Until
 min:0≤b.Minutes.Lo∧b.Minutes.Lo≤b.Minutes.Hi∧b.Minutes.Hi≤1440
def zh9 (l:Look):Prop:=ToldOk l.Source l.Lamp l.Night l.Known l.Until
theorem mwithin {a b c:Int}:zaC a b c=(decide (b≤a) && decide (a≤c)):=rfl
theorem bif0 (b:Bool) {c:Int} (hc:c≠0):((bif b then c else 0)=0)↔b=false:=by cases b <;> simp [-List.getD_eq_getElem?_getD,hc]
theorem zh8 (b:Bool) (c:Int):(bif b then c else 0)=0∨(bif b then c else 0)=c:=by cases b <;> simp [-List.getD_eq_getElem?_getD]
theorem zfx {n k u:Int}:zaI n k u=true↔(0≤n∧n≤100000)∧(0≤k∧k≤100000)∧(u=0∨(k<u∧u≤100000)):=by
 simp only [zaI,zaG,mwithin,Bool.and_eq_true,Bool.or_eq_true,decide_eq_true_eq]
 omega
theorem zeH {b:Batch}:zaz b=0↔BatchOk b:=by
 unfold zaz
 rw [bif0 _ (by decide)]
 simp only [za8,mwithin,Bool.or_eq_false_iff,Bool.not_eq_false',Bool.and_eq_true,decide_eq_true_eq]
 exact ⟨fun h=>⟨h.1,by omega⟩,fun h=>⟨h.id,by have:=h.life;omega⟩⟩
theorem zdz {m:Mantle}:zax m=0↔MantleOk m:=by
 unfold zax
 rw [bif0 _ (by decide)]
 simp only [zaF,zaA,mwithin,Bool.or_eq_false_iff,Bool.not_eq_false',Bool.and_eq_true,decide_eq_true_eq,zfx]
 exact ⟨fun h=>⟨⟨h.1.1.1,h.1.1.2,h.2.1,h.2.2.1,h.2.2.2⟩,h.1.2⟩,fun h=>⟨⟨⟨h.told.src,h.told.lamp⟩,h.batch⟩,h.told.night,h.told.known,h.told.til⟩⟩
theorem zet {m:Burn}:zaD m=0↔BurnOk m:=by
 unfold zaD
 rw [bif0 _ (by decide)]
 simp only [zaF,zaA,za8,mwithin,Bool.or_eq_false_iff,Bool.not_eq_false',Bool.and_eq_true,decide_eq_true_eq,zfx]
 exact ⟨fun h=>⟨⟨h.1.1.1,h.1.1.2,h.2.1,h.2.2.1,h.2.2.2⟩,by have:=h.1.2;omega⟩,fun h=>⟨⟨⟨h.told.src,h.told.lamp⟩,by have:=h.min;omega⟩,h.told.night,h.told.known,h.told.til⟩⟩
theorem zes {m:Look}:zay m=0↔zh9 m:=by
 unfold zay
 rw [bif0 _ (by decide)]
 simp only [zaF,zaA,mwithin,Bool.or_eq_false_iff,Bool.not_eq_false',Bool.and_eq_true,decide_eq_true_eq,zfx]
 exact ⟨fun h=>⟨h.1.1,h.1.2,h.2.1,h.2.2.1,h.2.2.2⟩,fun h=>⟨⟨h.src,h.lamp⟩,h.night,h.known,h.til⟩⟩
theorem zhQ (s l n k u:Int):∃ b,zaZ ⟨s,l,n,k,u⟩=some b∧(b=true↔ToldOk s l n k u):=by
 unfold zaZ
 rw [zgq (fun h=>by
  simp only [zaB,zaq,Bool.and_eq_true,decide_eq_true_eq] at h
  show inI (k+1)
  have:=h.1.2
  unfold inI;omega)]
 refine ⟨_,rfl,?_⟩
 simp only [zaB,zaq,Bool.and_eq_true,Bool.or_eq_true,decide_eq_true_eq]
 exact ⟨fun h=>⟨h.1.1.1.1,h.1.1.1.2,h.1.1.2,h.1.2,by omega⟩,fun h=>⟨⟨⟨⟨h.src,h.lamp⟩,h.night⟩,h.known⟩,by have:=h.til;have:=h.known;omega⟩⟩
theorem zdX (b:Batch):zar b=zaz b:=by
 have h:zar b=0↔BatchOk b:=by
  unfold zar
  rw [bif0 _ (by decide)]
  simp only [zaq,Bool.or_eq_false_iff,Bool.not_eq_false',Bool.and_eq_true,decide_eq_true_eq,decide_eq_false_iff_not]
  exact ⟨fun h=>⟨h.1.1,by omega⟩,fun h=>⟨⟨h.id,by have:=h.life;omega⟩,by have:=h.life;omega⟩⟩
 rw [← zeH] at h
 have h1:=zh8 (((!(zaq b.Id 1 99)) || (!(zaq b.Life.Lo 0 b.Life.Hi))) || (decide (1000000<b.Life.Hi))) 60
 have h2:=zh8 ((!(zaC b.Id 1 99)) || (!(za8 b.Life 1000000))) 60
 change zar b=0∨zar b=60 at h1
 change zaz b=0∨zaz b=60 at h2
 omega
theorem zg1 (m:Mantle):zaQ m=some (zax m):=by
 unfold zaQ
 obtain ⟨b,e,hb⟩:=zhQ m.Source m.Lamp m.Night m.Known m.Until
 rw [e]
 have h2:=zh8 ((((!(zaF m.Source)) || (!(zaA m.Lamp))) || (!(zaC m.Batch 1 99))) || (!(zaI m.Night m.Known m.Until))) 61
 change zax m=0∨zax m=61 at h2
 refine (zeU (P:=(· = zax m)) (fun h=>zaL ?_) (fun h=>zaL ?_)).eq
 · have:¬ MantleOk m:=fun V=>by
    have h3:=hb.2 V.told
    have:=V.batch
    simp [-List.getD_eq_getElem?_getD,h3,zaq] at h;omega
   rw [← zdz] at this;omega
 · have:MantleOk m:=by
    simp only [Bool.or_eq_false_iff,Bool.not_eq_false',zaq,Bool.and_eq_true,decide_eq_true_eq] at h
    exact ⟨hb.1 h.1,h.2⟩
   exact (zdz.2 this).symm
theorem zis (m:Burn):zaW m=some (zaD m):=by
 unfold zaW
 obtain ⟨b,e,hb⟩:=zhQ m.Source m.Lamp m.Night m.Known m.Until
 rw [e]
 have h2:=zh8 ((((!(zaF m.Source)) || (!(zaA m.Lamp))) || (!(za8 m.Minutes 1440))) || (!(zaI m.Night m.Known m.Until))) 62
 change zaD m=0∨zaD m=62 at h2
 refine (zeU (P:=(· = zaD m)) (fun h=>zaL ?_) (fun h=>zaL ?_)).eq
 · have:¬ BurnOk m:=fun V=>by
    have h3:=hb.2 V.told
    have:=V.min
    simp [-List.getD_eq_getElem?_getD,h3,zaq] at h;omega
   rw [← zet] at this;omega
 · have:BurnOk m:=by
    simp only [Bool.or_eq_false_iff,Bool.not_eq_false',zaq,Bool.and_eq_true,decide_eq_true_eq,decide_eq_false_iff_not] at h
    exact ⟨hb.1 h.1.1,by omega⟩
   exact (zet.2 this).symm
theorem zgF (m:Look):zaM m=some (zay m):=by
 unfold zaM
 obtain ⟨b,e,hb⟩:=zhQ m.Source m.Lamp m.Night m.Known m.Until
 rw [e]
 have h2:=zh8 (((!(zaF m.Source)) || (!(zaA m.Lamp))) || (!(zaI m.Night m.Known m.Until))) 63
 change zay m=0∨zay m=63 at h2
 refine (zeU (P:=(· = zay m)) (fun h=>zaL ?_) (fun h=>zaL ?_)).eq
 · have:¬ zh9 m:=fun V=>by simp [-List.getD_eq_getElem?_getD,hb.2 V] at h
   rw [← zes] at this;omega
 · have:zh9 m:=hb.1 (by simpa [-List.getD_eq_getElem?_getD] using h)
   exact (zes.2 this).symm
def zib {T:Type} [Inhabited T] (ok:T→Prop) (num:T→Int) (l:List T):Prop:=∀ i,i<l.length→ok (l.getD i default)∧(0<i→num (l.getD (i - 1) default)<num (l.getD i default))
theorem zfM {T:Type} [Inhabited T] {chk num:T→Int} {ok:T→Prop} (hok:∀ x,chk x=0↔ok x) {l:List T} {p1:Int} (hl:l.length≤9223372036854775807) :
 Wp (zau (fun i1 (s1:Unit) k1=>zas ((fun x0=>some (chk x0)) (l.getD i1 default)) fun y3=>must ((((!(!decide (y3=0))) && (decide (0<(i1:Int))))=true→(inI ((i1:Int) - 1)))) <| must ((((!(!decide (y3=0))) && (decide (0<(i1:Int))))=true→(0≤(((i1:Int) - 1):Int)∧(((i1:Int) - 1):Int)<((l.length:Nat):Int)))) <| zas ((bif ((!(!decide (y3=0))) && (decide (0<(i1:Int)))) then (fun x0=>some (num x0)) (l.getD (((i1:Int) - 1)).toNat default) else some default)) fun y7=>zas ((bif ((!(!decide (y3=0))) && (decide (0<(i1:Int)))) then (fun x0=>some (num x0)) (l.getD i1 default) else some default)) fun y9=>(bif ((!decide (y3=0)) || ((decide (0<(i1:Int))) && (decide (y9≤y7)))) then some false else k1 ())) (fun (s1:Unit)=>some (decide (((l.length:Nat):Int)≤p1))) l.length 0 ():Option Bool)
  (fun b=>b=true↔zib ok num l∧(l.length:Int)≤p1):=by
 refine zjt (fun i=>ok (l.getD i default)∧(0<i→num (l.getD (i - 1) default)<num (l.getD i default))) (fun i K hi _ hK=>?_) (fun h1=>zaL ?_)
 · refine zbm rfl ?_
   refine zaJ (fun _=>by unfold inI;omega) ?_
   refine zaJ (fun h=>by simp [-List.getD_eq_getElem?_getD] at h;omega) ?_
   have e:(((i:Int) - 1)).toNat=i - 1:=by omega
   rw [e]
   refine zlO (Q:=fun y=>y=num (l.getD (i - 1) default)) (fun _=>zaL rfl) (fun y7 h7=>?_)
   refine zlO (Q:=fun y=>y=num (l.getD i default)) (fun _=>zaL rfl) (fun y9 h9=>?_)
   by_cases hc:chk (l.getD i default)=0
   · by_cases h0:0<i
     · have hW:((!(!decide (chk (l.getD i default)=0))) && (decide (0<(i:Int))))=true:=by simp [-List.getD_eq_getElem?_getD,hc,h0]
       rw [h7 hW,h9 hW]
       refine zeU (fun hb=>zaL ?_) (fun hb=>hK ⟨(hok _).1 hc,fun _=>?_⟩)
       · simp only [hc,decide_true,Bool.not_true,Bool.false_or,Bool.and_eq_true,decide_eq_true_eq] at hb
         refine ⟨fun h=>(by cases h),fun h=>?_⟩
         have:=(h.1 i hi).2 h0;omega
       · simp only [hc,decide_true,Bool.not_true,Bool.false_or,Bool.and_eq_false_iff,decide_eq_false_iff_not] at hb
         omega
     · refine zcx (by simp [-List.getD_eq_getElem?_getD,hc];omega) (hK ⟨(hok _).1 hc,fun h=>absurd h h0⟩)
   · refine zdi (by simp [-List.getD_eq_getElem?_getD,hc]) (zaL ⟨fun h=>(by cases h),fun h=>absurd ((hok _).2 (h.1 i hi).1) hc⟩)
 · simp only [decide_eq_true_eq]
   exact ⟨fun h=>⟨h1,h⟩,fun h=>h.2⟩
structure WearOk (w:Wear):Prop where
 nb:w.Batches.length≤8
 nm:w.Mantles.length≤60
 nu:w.Burns.length≤60
 nl:w.Looks.length≤60
 ba:zib BatchOk (·.Id) w.Batches
 ma:zib MantleOk (·.Source) w.Mantles
 bu:zib BurnOk (·.Source) w.Burns
 lo:zib zh9 (·.Source) w.Looks
 has:∀ i,i<w.Mantles.length→∃ j,j<w.Batches.length∧(w.Batches.getD j default).Id=(w.Mantles.getD i default).Batch
structure Fits (w:Wear):Prop where
 b:w.Batches.length≤4611686018427387904
 m:w.Mantles.length≤4611686018427387904
 u:w.Burns.length≤4611686018427387904
 l:w.Looks.length≤4611686018427387904
theorem znQ {w:Wear} {p q r s:Prop} (h:(w.Batches.length * 24≤140737488351232∧p)∧(w.Mantles.length * 48≤140737488351232∧q)∧(w.Burns.length * 56≤140737488351232∧r)∧(w.Looks.length * 48≤140737488351232∧s)):Fits w:=⟨by have:=h.1.1;omega,by have:=h.2.1.1;omega,by have:=h.2.2.1.1;omega,by have:=h.2.2.2.1;omega⟩
theorem WearOk.fits {w:Wear} (h:WearOk w):Fits w:=⟨by have:=h.nb;omega,by have:=h.nm;omega,by have:=h.nu;omega,by have:=h.nl;omega⟩
def zj9 (w:Wear) (id:Int):Int:=match w.Batches.findIdx? (fun b=>decide (b.Id=id)) with
 | some i=>(i:Int)
 | none=>-1
theorem zlK (w:Wear) (id:Int):zbq w id=some (zj9 w id):=by
 unfold zbq zbw
 rw [zg6 (p:=fun x0=>some (zbz x0 id)) (q:=fun b=>decide (b.Id=id)) (fun x=>rfl)]
 rfl
theorem ziA {w:Wear} {id:Int}:zj9 w id<0↔¬ ∃ j,j<w.Batches.length∧(w.Batches.getD j default).Id=id:=by
 unfold zj9
 cases h:w.Batches.findIdx? (fun b=>decide (b.Id=id)) with
 | none=>
  rw [List.findIdx?_eq_none_iff] at h
  simp only [Int.reduceNeg,Int.reduceLT,true_iff]
  rintro ⟨j,hj,e⟩
  have:=h _ (zi2 hj)
  simp [-List.getD_eq_getElem?_getD,e] at this
 | some i=>
  rw [List.findIdx?_eq_some_iff_getElem] at h
  obtain ⟨h1,h2,h3⟩:=h
  refine ⟨fun h=>by simp [-List.getD_eq_getElem?_getD] at h;omega,fun h=>absurd ⟨i,h1,?_⟩ h⟩
  rw [List.getD_eq_getElem?_getD,List.getElem?_eq_getElem h1]
  simpa [-List.getD_eq_getElem?_getD] using h2
theorem zib.sorted {T:Type} [Inhabited T] {ok:T→Prop} {num:T→Int} {l:List T} (h:zib ok num l):l.Pairwise (fun a b=>num a<num b):=zlM num (fun i h0 hi=>(h i hi).2 h0)
theorem zib.ok {T:Type} [Inhabited T] {ok:T→Prop} {num:T→Int} {l:List T} (h:zib ok num l) {x:T} (hx:x∈l):ok x:=by
 obtain ⟨i,hi,rfl⟩:=ziS hx
 exact (h i hi).1
theorem zjG {w:Wear} (hf:Fits w):Wp (zba w) (fun r=>(WearOk w∧r=0)∨(¬ WearOk w∧r=64)):=by
 unfold zba
 have a1:=zfM (chk:=zaz) (num:=zb8) (fun _=>zeH) (l:=w.Batches) (p1:=8) (by have:=hf.b;omega)
 have a2:=zfM (chk:=zax) (num:=zb7) (fun _=>zdz) (l:=w.Mantles) (p1:=60) (by have:=hf.m;omega)
 have a3:=zfM (chk:=zaD) (num:=zb6) (fun _=>zet) (l:=w.Burns) (p1:=60) (by have:=hf.u;omega)
 have a4:=zfM (chk:=zay) (num:=zcC) (fun _=>zes) (l:=w.Looks) (p1:=60) (by have:=hf.l;omega)
 refine wp_bind (x:=zbO w.Batches 8 _ _) a1 (fun y1 h1=>?_)
 refine wp_bind (x:=zbG w.Mantles 60 _ _) a2 (fun y3 h3=>?_)
 refine wp_bind (x:=zb1 w.Burns 60 _ _) a3 (fun y5 h5=>?_)
 refine zlO (Q:=fun y=>y=true↔zib zh9 (·.Source) w.Looks∧(w.Looks.length:Int)≤60) (fun _=>a4) (fun y7 h7=>?_)
 refine zlO (Q:=fun y=>y=false↔∀ i,i<w.Mantles.length→∃ j,j<w.Batches.length∧(w.Batches.getD j default).Id=(w.Mantles.getD i default).Batch) (fun _=>?_) (fun y9 h9=>?_)
 · unfold zbc zbo
   rw [zg6 (p:=fun x0=>zb5 x0 w) (q:=fun m=>decide (zj9 w m.Batch<0)) (fun x=>by
    unfold zb5;rw [zlK];rfl)]
   refine zbm rfl (zaL ?_)
   cases h:w.Mantles.findIdx? (fun m=>decide (zj9 w m.Batch<0)) with
   | none=>
    rw [List.findIdx?_eq_none_iff] at h
    refine ⟨fun _ i hi=>?_,fun _=>rfl⟩
    have:=h _ (zi2 hi)
    simp only [decide_eq_false_iff_not,ziA,Classical.not_not] at this
    exact this
   | some i=>
    rw [List.findIdx?_eq_some_iff_getElem] at h
    obtain ⟨k1,k2,k3⟩:=h
    refine ⟨fun e=>(by simp [-List.getD_eq_getElem?_getD] at e),fun e=>?_⟩
    have:=e i k1
    rw [List.getD_eq_getElem?_getD (l:=w.Mantles),List.getElem?_eq_getElem k1] at this
    simp only [decide_eq_true_eq,ziA] at k2
    exact absurd this k2
 · refine zeU (fun hb=>zaL (.inr ⟨fun V=>?_,rfl⟩)) (fun hb=>zaL (.inl ⟨?_,rfl⟩))
   · have e1:=h1.2 ⟨V.ba,by have:=V.nb;omega⟩
     have e3:=h3.2 ⟨V.ma,by have:=V.nm;omega⟩
     have e5:=h5.2 ⟨V.bu,by have:=V.nu;omega⟩
     have e7:=(h7 (by simp [-List.getD_eq_getElem?_getD,e1,e3,e5])).2 ⟨V.lo,by have:=V.nl;omega⟩
     have e9:=(h9 (by simp [-List.getD_eq_getElem?_getD,e1,e3,e5,e7])).2 V.has
     simp [-List.getD_eq_getElem?_getD,e1,e3,e5,e7,e9] at hb
   · simp only [Bool.or_eq_false_iff,Bool.not_eq_false'] at hb
     obtain ⟨⟨⟨⟨e1,e3⟩,e5⟩,e7⟩,e9⟩:=hb
     have f7:=(h7 (by simp [-List.getD_eq_getElem?_getD,e1,e3,e5])).1 e7
     have f9:=(h9 (by simp [-List.getD_eq_getElem?_getD,e1,e3,e5,e7])).1 e9
     have f1:=h1.1 e1
     have f3:=h3.1 e3
     have f5:=h5.1 e5
     exact ⟨by omega,by omega,by omega,by omega,f1.1,f3.1,f5.1,f7.1,f9⟩
theorem zjH {w:Wear} (h:WearOk w):zba w=some 0:=by
 obtain ⟨r,e,h1|h1⟩:=zjG h.fits
 · rw [e,h1.2]
 · exact absurd h h1.1
theorem ziv {w:Wear} (hf:Fits w) (h:¬ WearOk w):zba w=some 64:=by
 obtain ⟨r,e,h1|h1⟩:=zjG hf
 · exact absurd h1.1 h
 · rw [e,h1.2]
end Go.Sp
end
/- Plain laws, mantle: the document's check; one look more, by both; MantleChecks. No program in sight. -/
section
set_option linter.all false
namespace Go.Sp
open Go.Av
set_option maxRecDepth 100000
theorem zht {R:Type} {body:Int→(Int→Option R)→Option R} {fuel:Nat} {P:R→Prop} {n:Nat} (hf:n<fuel) (good:Nat→Prop)
 (hb:∀ (i:Nat) (K:Int→Option R),i<n→(∀ j,j<i→good j)→(good i→Wp (K ((i:Int)+1)) P)→Wp (body (i:Int) K) P) (he:(∀ j,j<n→good j)→∀ K,Wp (body (n:Int) K) P):Wp (loopGo body fuel 0) P:=by
 refine znE n hf (fun i=>∀ j,j<i→good j) (fun j hj=>by omega) (fun i K hi hI hK=>?_)
 by_cases e:i=n
 · subst e;exact he hI K
 · exact hb i K (by omega) hI (fun g=>hK (by omega) (fun j hj=>by
    by_cases e:j=i
    · rw [e];exact g
    · exact hI j (by omega)))
theorem zke {R:Type} {P:R→Prop} {i n:Nat} {c0 x y:Int} {bad ok:Option R} (hi:i<n) (hn:n≤60)
 (hbad:¬ (c0=0∧(0<i→x<y))→Wp bad P) (hok:c0=0→(0<i→x<y)→Wp ok P) :
 Wp (must ((((!(!decide (c0=0))) && (decide (0<(i:Int))))=true→(inI ((i:Int) - 1)))) <| must ((((!(!decide (c0=0))) && (decide (0<(i:Int))))=true→(0≤(((i:Int) - 1):Int)∧(((i:Int) - 1):Int)<((n:Nat):Int)))) <| must ((((!(!decide (c0=0))) && (decide (0<(i:Int))))=true→(0≤(i:Int)∧(i:Int)<((n:Nat):Int)))) <| (bif ((!decide (c0=0)) || ((decide (0<(i:Int))) && (decide (y≤x)))) then bad else must (inI ((i:Int)+1)) <| ok)) P:=by
 refine zaJ (fun _=>by unfold inI;omega) ?_
 refine zaJ (fun h=>by simp [-List.getD_eq_getElem?_getD] at h;omega) ?_
 refine zaJ (fun h=>by omega) ?_
 refine zeU (fun h=>hbad ?_) (fun h=>zaJ (by unfold inI;omega) ?_)
 · simp only [Bool.or_eq_true,Bool.not_eq_true',decide_eq_false_iff_not,Bool.and_eq_true,decide_eq_true_eq] at h
   rintro ⟨h1,h2⟩
   rcases h with h|h
   · exact h h1
   · have:=h2 (by omega);omega
 · simp only [Bool.or_eq_false_iff,Bool.not_eq_false',decide_eq_true_eq,Bool.and_eq_false_iff,decide_eq_false_iff_not] at h
   exact hok h.1 (fun h0=>by rcases h.2 with h2|h2 <;> omega)
theorem zkx {fuel:Nat} {w:Wear} (hn:w.Batches.length≤8) (hf:100<fuel) (id:Int):Wp (zbe fuel w id) (fun b=>b=true↔∃ j,j<w.Batches.length∧(w.Batches.getD j default).Id=id):=by
 unfold zbe
 refine zht (n:=w.Batches.length) (by omega) (fun i=>(w.Batches.getD i default).Id≠id) (fun i K hi _ hK=>?_) (fun h K=>?_)
 · refine zdi (by simp [-List.getD_eq_getElem?_getD];omega) (zaJ (by omega) ?_)
   simp only [Int.toNat_natCast]
   exact zhr (fun h=>zaL ⟨fun _=>⟨i,hi,h⟩,fun _=>rfl⟩) (fun h=>zaJ (by unfold inI;omega) (hK h))
 · refine zcx (by simp [-List.getD_eq_getElem?_getD]) (zaL ⟨fun h=>(by cases h),fun ⟨j,hj,e⟩=>absurd e (h j hj)⟩)
theorem zjz {w:Wear} {fuel:Nat} (hfu:100<fuel):Wp (zaN fuel w) (fun r=>(WearOk w∧r=0)∨(¬ WearOk w∧r=64)):=by
 unfold zaN
 refine zeU (fun hb=>zaL (.inr ⟨fun V=>?_,rfl⟩)) (fun hb=>?_)
 · have:=V.nb;have:=V.nm;have:=V.nu;have:=V.nl
   simp [-List.getD_eq_getElem?_getD] at hb;omega
 simp only [Bool.or_eq_false_iff,decide_eq_false_iff_not] at hb
 obtain ⟨⟨⟨n1,n2⟩,n3⟩,n4⟩:=hb
 refine zht (n:=w.Batches.length) (by omega) (fun i=>BatchOk (w.Batches.getD i default)∧(0<i→(w.Batches.getD (i - 1) default).Id<(w.Batches.getD i default).Id)) (fun i K hi _ hK=>?_) (fun a1 K=>zcx (by simp [-List.getD_eq_getElem?_getD]) ?_)
 · refine zdi (by simp [-List.getD_eq_getElem?_getD];omega) (zaJ (by omega) ?_)
   have e:(((i:Int) - 1)).toNat=i - 1:=by omega
   simp only [Int.toNat_natCast,e,zdX]
   refine zke hi (by omega) (fun h=>zaL (.inr ⟨fun V=>h ?_,rfl⟩)) (fun h1 h2=>hK ⟨zeH.1 h1,h2⟩)
   exact ⟨zeH.2 (V.ba i hi).1,(V.ba i hi).2⟩
 refine zht (n:=w.Mantles.length) (by omega) (fun i=>(MantleOk (w.Mantles.getD i default)∧(0<i→(w.Mantles.getD (i - 1) default).Source<(w.Mantles.getD i default).Source))∧∃ j,j<w.Batches.length∧(w.Batches.getD j default).Id=(w.Mantles.getD i default).Batch) (fun i K hi _ hK=>?_) (fun a2 K=>zcx (by simp [-List.getD_eq_getElem?_getD]) ?_)
 · refine zdi (by simp [-List.getD_eq_getElem?_getD];omega) (zaJ (by omega) ?_)
   have e:(((i:Int) - 1)).toNat=i - 1:=by omega
   simp only [Int.toNat_natCast,e]
   refine zbm (zg1 _) ?_
   refine zaJ (fun h=>by omega) ?_
   refine zlO (fun _=>zkx (by omega) hfu _) (fun y16 h16=>?_)
   refine zaJ (fun _=>by unfold inI;omega) ?_
   refine zaJ (fun h=>by simp [-List.getD_eq_getElem?_getD] at h;omega) ?_
   refine zaJ (fun h=>by omega) ?_
   refine zeU (fun h=>zaL (.inr ⟨fun V=>?_,rfl⟩)) (fun h=>zaJ (by unfold inI;omega) (hK ?_))
   · have h3:=zdz.2 (V.ma i hi).1
     have h4:=(h16 (by simp [-List.getD_eq_getElem?_getD,h3])).2 (V.has i hi)
     simp only [h3,h4,decide_true,Bool.not_true,Bool.or_false,Bool.false_or,Bool.and_eq_true,decide_eq_true_eq] at h
     have:(w.Mantles.getD (i - 1) default).Source<(w.Mantles.getD i default).Source:=(V.ma i hi).2 (by omega)
     omega
   · simp only [Bool.or_eq_false_iff,Bool.not_eq_false',decide_eq_true_eq,Bool.and_eq_false_iff,decide_eq_false_iff_not] at h
     exact ⟨⟨zdz.1 h.1.1,fun h0=>by rcases h.2 with h2|h2 <;> omega⟩,(h16 (by simp [-List.getD_eq_getElem?_getD,h.1.1])).1 h.1.2⟩
 refine zht (n:=w.Burns.length) (by omega) (fun i=>BurnOk (w.Burns.getD i default)∧(0<i→(w.Burns.getD (i - 1) default).Source<(w.Burns.getD i default).Source)) (fun i K hi _ hK=>?_) (fun a3 K=>zcx (by simp [-List.getD_eq_getElem?_getD]) ?_)
 · refine zdi (by simp [-List.getD_eq_getElem?_getD];omega) (zaJ (by omega) ?_)
   have e:(((i:Int) - 1)).toNat=i - 1:=by omega
   simp only [Int.toNat_natCast,e]
   refine zbm (zis _) ?_
   refine zke hi (by omega) (fun h=>zaL (.inr ⟨fun V=>h ?_,rfl⟩)) (fun h1 h2=>hK ⟨zet.1 h1,h2⟩)
   exact ⟨zet.2 (V.bu i hi).1,(V.bu i hi).2⟩
 refine zht (n:=w.Looks.length) (by omega) (fun i=>zh9 (w.Looks.getD i default)∧(0<i→(w.Looks.getD (i - 1) default).Source<(w.Looks.getD i default).Source)) (fun i K hi _ hK=>?_) (fun a4 K=>zcx (by simp [-List.getD_eq_getElem?_getD]) ?_)
 · refine zdi (by simp [-List.getD_eq_getElem?_getD];omega) (zaJ (by omega) ?_)
   have e:(((i:Int) - 1)).toNat=i - 1:=by omega
   simp only [Int.toNat_natCast,e]
   refine zbm (zgF _) ?_
   refine zke hi (by omega) (fun h=>zaL (.inr ⟨fun V=>h ?_,rfl⟩)) (fun h1 h2=>hK ⟨zes.1 h1,h2⟩)
   exact ⟨zes.2 (V.lo i hi).1,(V.lo i hi).2⟩
 exact zaL (.inl ⟨⟨by omega,by omega,by omega,by omega,a1,fun i hi=>(a2 i hi).1,a3,a4,fun i hi=>(a2 i hi).2⟩,rfl⟩)
theorem zjA {w:Wear} {fuel:Nat} (hfu:100<fuel) (h:WearOk w):zaN fuel w=some 0:=by
 obtain ⟨r,e,h1|h1⟩:=zjz (w:=w) hfu
 · rw [e,h1.2]
 · exact absurd h h1.1
theorem zir {w:Wear} {fuel:Nat} (hfu:100<fuel) (h:¬ WearOk w):zaN fuel w=some 64:=by
 obtain ⟨r,e,h1|h1⟩:=zjz (w:=w) hfu
 · exact absurd h1.1 h
 · rw [e,h1.2]
end Go.Sp
end
/- Plain laws, mantle: the chapter's examples. -/
section
set_option linter.all false
namespace Go.Sp
open Go.Av
theorem zlR:zda 20000=some true:=by kernel_rfl
end Go.Sp
end
/- Plain laws, mantle: one look more, by both; MantleChecks. No program in sight. -/
section
set_option linter.all false
namespace Go.Sp
open Go.Av
set_option maxRecDepth 100000
theorem cmpI (a b:Int):zaP a b=if a<b then -1 else if b<a then 1 else 0:=by
 unfold zaP cmp_isNaN_int
 by_cases h1:a<b
 · simp [-List.getD_eq_getElem?_getD,h1]
 · by_cases h2:b<a <;> simp [-List.getD_eq_getElem?_getD,h1,h2]
theorem zlm {a b:Int}:zaP a b<0↔a<b:=by rw [cmpI];split <;> (try split) <;> omega
theorem zmH {a b:Int}:zaP a b=0↔a=b:=by rw [cmpI];split <;> (try split) <;> omega
structure InsAt (l:List Look) (x:Look) (k:Nat):Prop where
 le:k≤l.length
 lo:∀ i,i<k→(l.getD i default).Source<x.Source
 hi:∀ i,k≤i→i<l.length→¬ (l.getD i default).Source<x.Source
theorem zm9 {l:List Look} (hs:zib zh9 (·.Source) l) (x:Look):∃ k,InsAt l x k:=by
 obtain ⟨k,h1,h2,h3,_⟩:=zju (fun l:Look=>l.Source) hs.sorted x.Source
 exact ⟨k,h1,h2,h3⟩
def zhi (w:Wear) (x:Look) (k:Nat):Wear:=⟨w.Batches,w.Mantles,w.Burns,w.Looks.take k++[x]++w.Looks.drop k⟩
def zdb:Wear:=⟨[],[],[],[]⟩
def zhO (w:Wear) (x:Look) (k:Nat):Wear×Int:=
 bif (!decide (zay x=0)) || (decide (k<w.Looks.length) && decide ((w.Looks.getD k default).Source=x.Source)) then (zdb,63) else bif decide (w.Looks.length=60) then (zdb,2) else (zhi w x k,0)
theorem mlooked {w:Wear} {x:Look} {fuel k:Nat} (V:WearOk w) (hk:InsAt w.Looks x k) (hf:100<fuel):zbH fuel w x=some (zhO w x k):=by
 unfold zbH
 have nl:=V.nl;have nb:=V.nb;have nm:=V.nm;have nu:=V.nu
 refine Wp.eq (zbm (zjH V) (zcx (by simp [-List.getD_eq_getElem?_getD]) ?_))
 have hbs:=bsF_eq (fuel:=fuel) w.Looks x (p2:=fun x0 x1=>some (zbj x0 x1)) (c:=fun t=>zbj t x) (fun t=>rfl) (k:=k) hk.le (fun i hi=>zlm.2 (hk.lo i hi)) (fun i hi hi'=>by
  have:=hk.hi i hi hi'
  have e:=zlm (a:=(w.Looks.getD i default).Source) (b:=x.Source)
  show 0≤zaP _ _
  omega) (by omega) (by omega)
 refine zbm (show za7 fuel w.Looks x _=_ from hbs) ?_
 have e0:decide (zbj (w.Looks.getD k default) x=0)=decide ((w.Looks.getD k default).Source=x.Source):=by
  rw [decide_eq_decide];exact zmH
 simp only [e0]
 unfold zhO
 refine zeU (fun h=>zaL ?_) (fun h=>?_)
 · rw [h];rfl
 rw [h]
 refine zhr (fun h2=>zaL ?_) (fun h2=>?_)
 · have:w.Looks.length=60:=by omega
   simp [-List.getD_eq_getElem?_getD,this,zdb]
 have h2':¬ w.Looks.length=60:=by omega
 unfold zcf zbY zcz za5 zce
 refine zbm (zgq (by unfold room;simp [-List.getD_eq_getElem?_getD];omega) _) (zbm (zgq (by unfold room;simp [-List.getD_eq_getElem?_getD];omega) _) (zbm (zgq (by unfold room;simp [-List.getD_eq_getElem?_getD];omega) _) (zbm (zgq (by unfold room;simp [-List.getD_eq_getElem?_getD];omega) _) ?_)))
 have hle:=hk.le
 refine wp_bind (Q:=fun y=>y=w.Looks.take k++[x]++w.Looks.drop k) (zaJ (by simp [-List.getD_eq_getElem?_getD];omega) (zaJ (by unfold room;simp [-List.getD_eq_getElem?_getD];omega) (zaL (by simp [-List.getD_eq_getElem?_getD])))) (fun y hy=>zaL ?_)
 subst hy
 simp [-List.getD_eq_getElem?_getD,h2',zhi]
theorem rlooked {w:Wear} {x:Look} {fuel k:Nat} (V:WearOk w) (hk:InsAt w.Looks x k) (hf:100<fuel):za0 fuel w x=some (zhO w x k):=by
 unfold za0
 have nl:=V.nl;have nb:=V.nb;have nm:=V.nm;have nu:=V.nu
 refine Wp.eq (zbm (zjA hf V) (zcx (by simp [-List.getD_eq_getElem?_getD]) (zbm (zgF x) ?_)))
 unfold zhO
 refine zeU (fun h=>zaL ?_) (fun h=>?_)
 · rw [h];rfl
 rw [h]
 have hle:=hk.le
 refine zhs w.Looks.length (by omega) (fun i (s:Int)=>s=((min i k:Nat):Int)∧∀ j,j<i→(w.Looks.getD j default).Source≠x.Source) ⟨by simp [-List.getD_eq_getElem?_getD],fun j hj=>by omega⟩ (fun i s K hi hI hK=>?_)
 obtain ⟨rfl,hI⟩:=hI
 by_cases hin:i<w.Looks.length
 · refine zdi (by simp [-List.getD_eq_getElem?_getD];omega) (zaJ (by simp only;omega) ?_)
   simp only [Int.toNat_natCast]
   refine zhr (fun he=>zaL ?_) (fun hne=>?_)
   · have e1:k=i:=by
      rcases Nat.lt_trichotomy k i with h1|h1|h1
      · have a1:=hk.hi k (Nat.le_refl _) (by omega)
        have a2:(w.Looks.getD k default).Source<(w.Looks.getD i default).Source:=zhA (f:=fun l:Look=>l.Source) V.lo.sorted h1 hin
        omega
      · exact h1
      · have:=hk.lo i h1;omega
     subst e1
     simp [-List.getD_eq_getElem?_getD,hin,he,zdb]
   · refine zaJ (by omega) ?_
     refine zhr (fun hl=>zdr (by omega) (zdr (by omega) (hK _ (by omega) ⟨?_,?_⟩))) (fun hl=>zdr (by omega) (hK _ (by omega) ⟨?_,?_⟩))
     · have:i<k:=by
        rcases Nat.lt_or_ge i k with h1|h1
        · exact h1
        · exact absurd hl (hk.hi i h1 hin)
       omega
     · intro j hj
       by_cases e:j=i
       · rw [e];exact hne
       · exact hI j (by omega)
     · have:k≤i:=by
        rcases Nat.lt_or_ge i k with h1|h1
        · exact absurd (hk.lo i h1) hl
        · exact h1
       omega
     · intro j hj
       by_cases e:j=i
       · rw [e];exact hne
       · exact hI j (by omega)
 · have e:i=w.Looks.length:=by omega
   subst e
   refine zcx (by simp [-List.getD_eq_getElem?_getD]) ?_
   have e1:(decide (k<w.Looks.length) && decide ((w.Looks.getD k default).Source=x.Source))=false:=by
    by_cases h1:k<w.Looks.length
    · simp [-List.getD_eq_getElem?_getD,hI k h1]
    · simp [-List.getD_eq_getElem?_getD,h1]
   rw [e1]
   simp only [Bool.or_false,Bool.false_or,cond_false]
   refine zhr (fun h2=>zaL ?_) (fun h2=>?_)
   · have:w.Looks.length=60:=by omega
     simp [-List.getD_eq_getElem?_getD,this,zdb]
   have h2':¬ w.Looks.length=60:=by omega
   unfold zcj
   refine wp_bind (Q:=fun y=>y=w) (zaJ (by unfold room;simp [-List.getD_eq_getElem?_getD];omega) (zaJ (by unfold room;simp [-List.getD_eq_getElem?_getD];omega) (zaJ (by unfold room;simp [-List.getD_eq_getElem?_getD];omega) (zaJ (by unfold room;simp [-List.getD_eq_getElem?_getD];omega) (zaL (by simp [-List.getD_eq_getElem?_getD])))))) (fun y hy=>?_)
   subst hy
   have e2:(((min y.Looks.length k:Nat):Int)).toNat=k:=by omega
   refine zaJ (by omega) ?_
   rw [e2]
   refine zaJ (by unfold room;simp [-List.getD_eq_getElem?_getD];omega) (zaJ (by unfold room;simp [-List.getD_eq_getElem?_getD];omega) (zaJ (by omega) (zaJ (by unfold room;simp [-List.getD_eq_getElem?_getD];omega) (zaL ?_))))
   simp [-List.getD_eq_getElem?_getD,h2',zhi]
theorem ziK {w:Wear} {fuel:Nat} (hf:w.Batches.length<fuel∧w.Mantles.length<fuel∧w.Burns.length<fuel∧w.Looks.length<fuel) (hl:Fits w):zbf fuel w w=some true:=by
 have h1:=hl.b;have h2:=hl.m;have h3:=hl.u;have h4:=hl.l
 unfold zbf
 have e0:((((decide (((w.Batches.length:Nat):Int)=((w.Batches.length:Nat):Int))) && (decide (((w.Mantles.length:Nat):Int)=((w.Mantles.length:Nat):Int)))) && (decide (((w.Burns.length:Nat):Int)=((w.Burns.length:Nat):Int)))) && (decide (((w.Looks.length:Nat):Int)=((w.Looks.length:Nat):Int))))=true:=by simp [-List.getD_eq_getElem?_getD]
 rw [e0]
 refine Wp.eq ?_
 refine zhs w.Batches.length hf.1 (fun i (s:Bool)=>s=true) rfl (fun i s K hi hI hK=>?_)
 subst hI
 by_cases hin:i<w.Batches.length
 · refine zdi (by simp [-List.getD_eq_getElem?_getD];omega) (zaJ (by simp only;omega) (zaJ (by simp only;omega) (zdr (by simp only;omega) (hK _ hin (by simp [-List.getD_eq_getElem?_getD])))))
 refine zcx (by simp [-List.getD_eq_getElem?_getD];omega) ?_
 refine zhs w.Mantles.length hf.2.1 (fun i (s:Bool)=>s=true) rfl (fun i s K hi hI hK=>?_)
 subst hI
 by_cases hin:i<w.Mantles.length
 · refine zdi (by simp [-List.getD_eq_getElem?_getD];omega) (zaJ (by simp only;omega) (zaJ (by simp only;omega) (zdr (by simp only;omega) (hK _ hin (by simp [-List.getD_eq_getElem?_getD])))))
 refine zcx (by simp [-List.getD_eq_getElem?_getD];omega) ?_
 refine zhs w.Burns.length hf.2.2.1 (fun i (s:Bool)=>s=true) rfl (fun i s K hi hI hK=>?_)
 subst hI
 by_cases hin:i<w.Burns.length
 · refine zdi (by simp [-List.getD_eq_getElem?_getD];omega) (zaJ (by simp only;omega) (zaJ (by simp only;omega) (zdr (by simp only;omega) (hK _ hin (by simp [-List.getD_eq_getElem?_getD])))))
 refine zcx (by simp [-List.getD_eq_getElem?_getD];omega) ?_
 refine zhs w.Looks.length hf.2.2.2 (fun i (s:Bool)=>s=true) rfl (fun i s K hi hI hK=>?_)
 subst hI
 by_cases hin:i<w.Looks.length
 · refine zdi (by simp [-List.getD_eq_getElem?_getD];omega) (zaJ (by simp only;omega) (zaJ (by simp only;omega) (zdr (by simp only;omega) (hK _ hin (by simp [-List.getD_eq_getElem?_getD])))))
 exact zcx (by simp [-List.getD_eq_getElem?_getD];omega) (zaL rfl)
theorem zku {w:Wear} (hw:Fits w) (x:Look) {fuel:Nat} (hf:100<fuel):∃ r,zbH fuel w x=some r∧za0 fuel w x=some r∧r.1.Batches.length≤8∧r.1.Mantles.length≤60∧r.1.Burns.length≤60∧r.1.Looks.length≤61:=by
 by_cases V:WearOk w
 · obtain ⟨k,hk⟩:=zm9 V.lo x
   refine ⟨_,mlooked V hk hf,rlooked V hk hf,?_⟩
   have nl:=V.nl;have nb:=V.nb;have nm:=V.nm;have nu:=V.nu;have:=hk.le
   unfold zhO
   cases ((!decide (zay x=0)) || (decide (k<w.Looks.length) && decide ((w.Looks.getD k default).Source=x.Source))) with
   | true=>simp [-List.getD_eq_getElem?_getD,zdb]
   | false=>
    cases decide (w.Looks.length=60) with
    | true=>simp [-List.getD_eq_getElem?_getD,zdb]
    | false=>simp only [cond_false,zhi];simp [-List.getD_eq_getElem?_getD];omega
 · refine ⟨(zdb,64),?_,?_,by simp [-List.getD_eq_getElem?_getD,zdb]⟩
   · unfold zbH
     exact Wp.eq (zbm (ziv hw V) (zdi (by simp [-List.getD_eq_getElem?_getD]) (zaL rfl)))
   · unfold za0
     exact Wp.eq (zbm (zir hf V) (zdi (by simp [-List.getD_eq_getElem?_getD]) (zaL rfl)))
theorem zlG {w:Wear} (hw:Fits w) {fuel:Nat} (hf:100<fuel):∃ r,zba w=some r∧zaN fuel w=some r:=by
 by_cases V:WearOk w
 · exact ⟨0,zjH V,zjA hf V⟩
 · exact ⟨64,ziv hw V,zir hf V⟩
theorem zgX {w:Wear} (hw:Fits w) (x:gasolierlaw06_One):zaK 1000 w x=some true:=by
 unfold zaK
 obtain ⟨r,e1,e2,n1,n2,n3,n4⟩:=zku hw x.Look (fuel:=1000) (by omega)
 obtain ⟨c,c1,c2⟩:=zlG hw (fuel:=1000) (by omega)
 refine Wp.eq (zbm zlR (zbm e1 (zbm e2 (zbm (ziK ⟨by omega,by omega,by omega,by omega⟩ ⟨by omega,by omega,by omega,by omega⟩) ?_))))
 refine zik (by simp [-List.getD_eq_getElem?_getD]) c1 (zik (by simp [-List.getD_eq_getElem?_getD]) c2 ?_)
 refine zik (by simp [-List.getD_eq_getElem?_getD,zdX]) (zg1 _) (zik (by simp [-List.getD_eq_getElem?_getD,zdX]) (zis _) (zik (by simp [-List.getD_eq_getElem?_getD,zdX]) (zgF _) (zaL ?_)))
 simp [-List.getD_eq_getElem?_getD,zdX]
end Go.Sp
end
