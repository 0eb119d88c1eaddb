/- Texts of the framework, or of the plain law, one behind another. -/
import Derived.Test.YtakjeajlmlmkeaaGreatFr1
import Derived.Test.YtakjeajlmlmkeaaGreatFr5
import Derived.KernelRfl
/- Rules for plain laws: what a printed definition yields. No program in sight. -/
section
set_option linter.all false
namespace Go.Sp
open Go.Av
def Wp {R:Type} (x:Option R) (P:R→Prop):Prop:=∃ r,x=some r∧P r
theorem Wp.eq {R:Type} {x:Option R} {v:R} (h:Wp x (· = v)):x=some v:=by
 obtain ⟨r,h1,h2⟩:=h;rw [h1,h2]
theorem zap {R:Type} {r:R} {P:R→Prop} (h:P r):Wp (some r) P:=⟨r,rfl,h⟩
theorem zas {R:Type} {c:Prop} [Decidable c] {x:Option R} {P:R→Prop} (h:c) (k:Wp x P):Wp (must c x) P:=by
 unfold must;rw [if_pos h];exact k
theorem wp_bind {S R:Type} {x:Option S} {k:S→Option R} {P:R→Prop} {Q:S→Prop} (h:Wp x Q) (hk:∀ s,Q s→Wp (k s) P):Wp (zao x k) P:=by
 obtain ⟨r,h1,h2⟩:=h;rw [h1];exact hk r h2
theorem zat {S R:Type} {x:Option S} {k:S→Option R} {P:R→Prop} {v:S} (h:x=some v) (hk:Wp (k v) P):Wp (zao x k) P:=by
 rw [h];exact hk
theorem zbu {R:Type} {b:Bool} {x y:Option R} {P:R→Prop} (h1:b=true→Wp x P) (h2:b=false→Wp y P):Wp (bif b then x else y) P:=by
 cases b
 · exact h2 rfl
 · exact h1 rfl
theorem wp_if {R:Type} {p:Prop} {b:Bool} {x y:Option R} {P:R→Prop} (hb:b=true↔p) (h1:p→Wp x P) (h2:¬ p→Wp y P):Wp (bif b then x else y) P:=
 zbu (fun h=>h1 (hb.1 h)) (fun h=>h2 (fun hp=>by rw [hb.2 hp] at h;cases h))
theorem zch {R:Type} {p:Prop} [Decidable p] {x y:Option R} {P:R→Prop} (h1:p→Wp x P) (h2:¬ p→Wp y P):Wp (bif (decide p) then x else y) P:=
 wp_if (decide_eq_true_iff) h1 h2
theorem zir {R:Type} {p:Prop} [Decidable p] {x y:Option R} {P:R→Prop} (h1:¬ p→Wp x P) (h2:p→Wp y P):Wp (bif (!decide p) then x else y) P:=
 zbu (fun h=>h1 (by simpa using h)) (fun h=>h2 (by simpa using h))
theorem zaY {R:Type} {b:Bool} {x y:Option R} {P:R→Prop} (h:b=true) (h1:Wp x P):Wp (bif b then x else y) P:=by rw [h];exact h1
theorem zaR {R:Type} {b:Bool} {x y:Option R} {P:R→Prop} (h:b=false) (h1:Wp y P):Wp (bif b then x else y) P:=by rw [h];exact h1
theorem ze5 {S R:Type} {f:(S→Option R)→Option R} {k:S→Option R} {P:R→Prop} (G:S→Prop) (hf:∀ K:S→Option R,(∀ s,G s→Wp (K s) P)→Wp (f K) P) (hk:∀ s,G s→Wp (k s) P):Wp (zhG f k) P:=hf k hk
theorem zd9 {S R:Type} {body:Nat→S→(S→Option R)→Option R} {ex:S→Option R} {n:Nat} {s0:S} {P:R→Prop} (Inv:Nat→S→Prop) (h0:Inv 0 s0)
 (hb:∀ (i:Nat) s (K:S→Option R),i<n→Inv i s→(∀ s',Inv (i+1) s'→Wp (K s') P)→Wp (body i s K) P) (he:∀ s,Inv n s→Wp (ex s) P):Wp (zav body ex n 0 s0) P:=by
 have go:∀ (m i:Nat),i+m=n→∀ s,Inv i s→Wp (zav body ex m i s) P:=by
  intro m
  induction m with
  | zero=>intro i hi s hs;have e:i=n:=(by omega);subst e;exact he s hs
  | succ m ih=>intro i hi s hs;exact hb i s _ (by omega) hs (fun s' h'=>ih (i+1) (by omega) s' h')
 exact go n 0 (by omega) s0 h0
theorem wp_loop {S R:Type} {body:S→(S→Option R)→Option R} {fuel:Nat} {s0:S} {P:R→Prop} (Inv:S→Prop) (μ:S→Nat) (hf:μ s0<fuel) (h0:Inv s0)
 (hb:∀ s (K:S→Option R),Inv s→(∀ s',Inv s'→μ s'<μ s→Wp (K s') P)→Wp (body s K) P):Wp (loopGo body fuel s0) P:=by
 have go:∀ (f:Nat) s,Inv s→μ s<f→Wp (loopGo body f s) P:=by
  intro f
  induction f with
  | zero=>intro s _ h;omega
  | succ f ih=>intro s hs hm;exact hb s _ hs (fun s' h' hl=>ih s' h' (by omega))
 exact go fuel s0 h0 hf
theorem ziY {S R:Type} {body:(Int×S)→((Int×S)→Option R)→Option R} {fuel:Nat} {s0:S} {P:R→Prop} (n:Nat) (hf:n<fuel) (Inv:Nat→S→Prop) (h0:Inv 0 s0)
 (hb:∀ (i:Nat) s (K:(Int×S)→Option R),i≤n→Inv i s→(∀ s',i<n→Inv (i+1) s'→Wp (K ((i:Int)+1,s')) P)→Wp (body ((i:Int),s) K) P):Wp (loopGo body fuel (0,s0)) P:=by
 have go:∀ (f i:Nat) s,i≤n→n - i<f→Inv i s→Wp (loopGo body f ((i:Int),s)) P:=by
  intro f
  induction f with
  | zero=>intro i s _ h;omega
  | succ f ih=>intro i s hi hm hs;exact hb i s _ hi hs (fun s' hl h'=>ih (i+1) s' (by omega) (by omega) h')
 exact go fuel 0 s0 (by omega) (by omega) h0
theorem zqp {R:Type} {body:Int→(Int→Option R)→Option R} {fuel:Nat} {P:R→Prop} (n:Nat) (hf:n<fuel) (Inv:Nat→Prop) (h0:Inv 0)
 (hb:∀ (i:Nat) (K:Int→Option R),i≤n→Inv i→(i<n→Inv (i+1)→Wp (K ((i:Int)+1)) P)→Wp (body (i:Int) K) P):Wp (loopGo body fuel 0) P:=by
 have go:∀ (f i:Nat),i≤n→n - i<f→Inv i→Wp (loopGo body f (i:Int)) P:=by
  intro f
  induction f with
  | zero=>intro i _ h;omega
  | succ f ih=>intro i hi hm hs;exact hb i _ hi hs (fun hl h'=>ih (i+1) (by omega) (by omega) h')
 exact go fuel 0 (by omega) (by omega) h0
theorem zqo {S R:Type} {body:(S×Int)→((S×Int)→Option R)→Option R} {fuel:Nat} {s0:S} {P:R→Prop} (n:Nat) (hf:n<fuel) (Inv:Nat→S→Prop) (h0:Inv 0 s0)
 (hb:∀ (i:Nat) s (K:(S×Int)→Option R),i≤n→Inv i s→(∀ s',i<n→Inv (i+1) s'→Wp (K (s',(i:Int)+1)) P)→Wp (body (s,(i:Int)) K) P):Wp (loopGo body fuel (s0,0)) P:=by
 have go:∀ (f i:Nat) s,i≤n→n - i<f→Inv i s→Wp (loopGo body f (s,(i:Int))) P:=by
  intro f
  induction f with
  | zero=>intro i s _ h;omega
  | succ f ih=>intro i s hi hm hs;exact hb i s _ hi hs (fun s' hl h'=>ih (i+1) s' (by omega) (by omega) h')
 exact go fuel 0 s0 (by omega) (by omega) h0
end Go.Sp
end
/- More rules for plain laws. No program in sight. -/
section
set_option linter.all false
namespace Go.Sp
open Go.Av
theorem zaq {R:Type} {n:Int} {x:Option R} {P:R→Prop} (h : -9223372036854775808≤n∧n≤9223372036854775807) (k:Wp x P):Wp (must (inI n) x) P:=zas h k
theorem zcW {R:Type} {n b:Nat} {x:Option R} {P:R→Prop} (h:n * b≤140737488355328∧n≤9223372036854775807) (k:Wp x P):Wp (must (room n b) x) P:=zas h k
theorem zlg {S R:Type} [Inhabited S] {W:Bool} {x:Option S} {k:S→Option R} {P:R→Prop} {Q:S→Prop} (h:W=true→Wp x Q) (hk:∀ s,(W=true→Q s)→Wp (k s) P):Wp (zao (bif W then x else some default) k) P:=by
 cases W
 · exact hk _ (fun h=>by cases h)
 · exact wp_bind (h rfl) (fun s hs=>hk s (fun _=>hs))
end Go.Sp
end
/- Rules for plain laws, more of them. No program in sight. -/
section
set_option linter.all false
namespace Go.Sp
open Go.Av
theorem ziX {R:Type} {body:Nat→Unit→(Unit→Option R)→Option R} {ex:Unit→Option R} {n:Nat} {P:R→Prop} (good:Nat→Prop)
 (hb:∀ (i:Nat) (K:Option R),i<n→(∀ j,j<i→good j)→(good i→Wp K P)→Wp (body i () (fun _=>K)) P) (he:(∀ j,j<n→good j)→Wp (ex ()) P):Wp (zav body ex n 0 ()) P:=by
 refine zd9 (fun i _=>∀ j,j<i→good j) (fun j hj=>by omega) (fun i s K hi hI hK=>?_) (fun s hs=>he hs)
 have e:K=fun _=>K ():=funext fun u=>rfl
 rw [e]
 exact hb i (K ()) hi hI (fun g=>hK () (fun j hj=>by
  by_cases e:j=i
  · rw [e];exact g
  · exact hI j (by omega)))
theorem zn7 {S R:Type} {W:Bool} {x y:Option S} {k:S→Option R} {P:R→Prop} {v:S} (hW:W=true) (h:x=some v) (hk:Wp (k v) P):Wp (zao (bif W then x else y) k) P:=by
 subst hW;rw [h];exact hk
theorem zqn {S R:Type} {W:Bool} {x y:Option S} {k:S→Option R} {P:R→Prop} {v:S} (hW:W=false) (h:y=some v) (hk:Wp (k v) P):Wp (zao (bif W then x else y) k) P:=by
 subst hW;rw [h];exact hk
theorem zgP {R:Type} {c:Prop} [Decidable c] (h:c) (x:Option R):must c x=x:=if_pos h
theorem zpR {T:Type} (l:List T) (i j:Nat) (x d:T) (hi:i<l.length):(l.set i x).getD j d=if j=i then x else l.getD j d:=by
 simp only [List.getD_eq_getElem?_getD]
 by_cases e:j=i
 · subst e;rw [List.getElem?_set_self hi,if_pos rfl];rfl
 · rw [List.getElem?_set_ne (fun h=>e h.symm),if_neg e]
theorem zlH {T:Type} (l:List T) (x d:T) (i:Nat):(l++[x]).getD i d=if i=l.length then x else l.getD i d:=by
 simp only [List.getD_eq_getElem?_getD]
 rcases Nat.lt_trichotomy i l.length with h|h|h
 · rw [List.getElem?_append_left h,if_neg (by omega)]
 · subst h;simp
 · rw [if_neg (by omega),List.getElem?_eq_none (by simp;omega),List.getElem?_eq_none (by omega)]
theorem zcz {T:Type} [Inhabited T] {l:List T} {i:Nat} (h:i<l.length):l.getD i default∈l:=by
 rw [List.getD_eq_getElem?_getD,List.getElem?_eq_getElem h];exact List.getElem_mem h
theorem zeZ {T:Type} [Inhabited T] {l:List T} {x:T} (h:x∈l):∃ i,i<l.length∧l.getD i default=x:=by
 obtain ⟨i,hi,rfl⟩:=List.getElem_of_mem h
 exact ⟨i,hi,by rw [List.getD_eq_getElem?_getD,List.getElem?_eq_getElem hi];rfl⟩
theorem getD_take {T:Type} (l:List T) (n i:Nat) (d:T):(l.take n).getD i d=if i<n then l.getD i d else d:=by
 simp only [List.getD_eq_getElem?_getD,List.getElem?_take]
 split <;> rfl
theorem getD_drop {T:Type} (l:List T) (n i:Nat) (d:T):(l.drop n).getD i d=l.getD (n+i) d:=by
 simp only [List.getD_eq_getElem?_getD,List.getElem?_drop]
theorem znr {T:Type} [Inhabited T] {l r:List T} (hl:l.length=r.length) (h:∀ i,i<l.length→l.getD i default=r.getD i default):l=r:=by
 refine List.ext_getElem hl (fun i h1 h2=>?_)
 have:=h i h1
 rw [List.getD_eq_getElem?_getD,List.getD_eq_getElem?_getD,List.getElem?_eq_getElem h1,List.getElem?_eq_getElem h2] at this
 exact this
theorem zm9 {T:Type} [DecidableEq T]:∀ {l r:List T},l.Nodup→(∀ x∈l,x∈r)→l.length≤r.length
 | [],r,_,_=>Nat.zero_le _
 | x::l,r,hn,hs=>by
  have hx:=hs x List.mem_cons_self
  rw [List.nodup_cons] at hn
  have:=zm9 (l:=l) (r:=r.erase x) hn.2 (fun y hy=>(List.mem_erase_of_ne (fun (e:y=x)=>hn.1 (e▸hy))).2 (hs y (List.mem_cons_of_mem _ hy)))
  rw [List.length_erase_of_mem hx] at this
  have:=List.length_pos_of_mem hx
  simp only [List.length_cons];omega
theorem zpU {x:Int} {j:Nat} (h:0≤x):Int.fdiv x (2 ^ j)=((x.toNat >>> j:Nat):Int):=by
 obtain ⟨n,rfl⟩:=Int.eq_ofNat_of_zero_le h
 rw [Int.toNat_natCast,Nat.shiftRight_eq_div_pow]
 have:(2:Int) ^ j=((2 ^ j:Nat):Int):=by simp
 rw [this,Int.fdiv_eq_ediv_of_nonneg _ (Int.natCast_nonneg _)]
 exact (Int.natCast_ediv _ _).symm
theorem znZ {A:Type} {body:Nat→Unit→(Unit→Option (List A))→Option (List A)} {n:Nat} (W:Nat→Bool) (x:Nat→A)
 (hb:∀ (i:Nat) (r:Option (List A)),i<n→body i () (fun _=>r)=zkg (W i) (x i) r):zav body (fun _=>some []) n 0 ()=some (((List.range' 0 n).filter W).map x):=by
 have go:∀ m i,i+m=n→zav body (fun _=>some []) m i ()=some (((List.range' i m).filter W).map x):=by
  intro m
  induction m with
  | zero=>intro i _;rfl
  | succ m ih=>
   intro i hi
   have e:zav body (fun _=>some []) (m+1) i ()=body i () (fun u=>zav body (fun _=>some []) m (i+1) u):=rfl
   rw [e]
   have e2:(fun u=>zav body (fun _=>some ([]:List A)) m (i+1) u)=fun _=>some (((List.range' (i+1) m).filter W).map x):=by
    funext u;exact ih (i+1) (by omega)
   rw [e2,hb i _ (by omega),List.range'_succ,List.filter_cons]
   cases W i <;> rfl
 exact go n 0 (by omega)
end Go.Sp
end
/- Binary search, and insertion into a sorted list. No program in sight. -/
section
set_option linter.all false
namespace Go.Sp
open Go.Av
def bsF {T E:Type} [Inhabited T] (fuel:Nat) (p0:List T) (p1:E) (p2:T→E→Option Int):Option (Int×Bool):=
 (loopGo (fun (s1:Int×Int) k1=>(bif (decide (s1.2<s1.1)) then must (inI (s1.2+s1.1)) <| must (inU (s1.2+s1.1)) <| must (inI (Int.fdiv (s1.2+s1.1) (2 ^ (1:Int).toNat))) <| must (0≤((Int.fdiv (s1.2+s1.1) (2 ^ (1:Int).toNat)):Int)∧((Int.fdiv (s1.2+s1.1) (2 ^ (1:Int).toNat)):Int)<((p0.length:Nat):Int)) <| zao (p2 (p0.getD ((Int.fdiv (s1.2+s1.1) (2 ^ (1:Int).toNat))).toNat default) p1) fun y7=>(bif (decide (y7<0)) then must (inI ((Int.fdiv (s1.2+s1.1) (2 ^ (1:Int).toNat))+1)) <| k1 (s1.1,((Int.fdiv (s1.2+s1.1) (2 ^ (1:Int).toNat))+1)) else k1 ((Int.fdiv (s1.2+s1.1) (2 ^ (1:Int).toNat)),s1.2)) else must (((decide (s1.2<((p0.length:Nat):Int)))=true→(0≤(s1.2:Int)∧(s1.2:Int)<((p0.length:Nat):Int)))) <| zao ((bif (decide (s1.2<((p0.length:Nat):Int))) then p2 (p0.getD (s1.2).toNat default) p1 else some default)) fun y12=>some (s1.2,((decide (s1.2<((p0.length:Nat):Int))) && (decide (y12=0)))))) fuel (((p0.length:Nat):Int),0))
theorem bsF_eq {T E:Type} [Inhabited T] {fuel:Nat} (l:List T) (x:E) {p2:T→E→Option Int} {c:T→Int} (hp:∀ t,p2 t x=some (c t)) {k:Nat} (hk:k≤l.length)
 (h1:∀ i,i<k→c (l.getD i default)<0) (h2:∀ i,k≤i→i<l.length→0≤c (l.getD i default)) (hl:l.length≤1000000000) (hf:l.length<fuel) :
 bsF fuel l x p2=some ((k:Int),decide (k<l.length) && decide (c (l.getD k default)=0)):=by
 unfold bsF
 refine Wp.eq (wp_loop (fun s=>∃ lo hi:Nat,s=((hi:Int),(lo:Int))∧lo≤k∧k≤hi∧hi≤l.length) (fun s=>(s.1 - s.2).toNat) (by simp only;omega) ⟨0,l.length,rfl,by omega,hk,by omega⟩ ?_)
 rintro _ K ⟨lo,hi,rfl,a1,a2,a3⟩ hK
 simp only at hK ⊢
 refine zch (fun hlt=>?_) (fun hge=>?_)
 · have e2:Int.fdiv ((lo:Int)+hi) (2 ^ (1:Int).toNat)=(((lo+hi) / 2:Nat):Int):=by
    rw [show (1:Int).toNat=1 from rfl,zpU (by omega),show ((lo:Int)+hi).toNat=lo+hi by omega,Nat.shiftRight_eq_div_pow]
   rw [e2]
   generalize hm:(lo+hi) / 2=m
   refine zaq (by omega) (zas (by unfold inU;omega) (zaq (by omega) (zas (by omega) (zat (hp _) ?_))))
   rw [Int.toNat_natCast]
   refine zch (fun hc=>?_) (fun hc=>?_)
   · refine zaq (by omega) (hK _ ⟨m+1,hi,by simp,?_,a2,a3⟩ (by simp only;omega))
     rcases Nat.lt_or_ge m k with h|h
     · omega
     · have:=h2 m h (by omega);omega
   · refine hK _ ⟨lo,m,rfl,a1,?_,by omega⟩ (by simp only;omega)
     rcases Nat.lt_or_ge m k with h|h
     · exact absurd (h1 m h) hc
     · exact h
 · have elo:lo=k:=by omega
   subst elo
   refine zas (fun h=>by have:=of_decide_eq_true h;omega) ?_
   by_cases hlt:(lo:Int)<(l.length:Int)
   · refine zn7 (by simp;omega) (hp _) (zap ?_)
     rw [Int.toNat_natCast]
     congr 2
     simp
   · refine zqn (by simp;omega) rfl (zap ?_)
     have e1:decide ((lo:Int)<(l.length:Int))=false:=by simp;omega
     have e2:decide (lo<l.length)=false:=by simp;omega
     rw [e1,e2];rfl
theorem zmY {A:Nat→Prop}:∀ (n:Nat),(∀ i j,i<j→j<n→A j→A i)→∃ k,k≤n∧(∀ i,i<k→A i)∧∀ i,k≤i→i<n→¬ A i
 | 0,_=>⟨0,Nat.le_refl _,fun i h=>absurd h (Nat.not_lt_zero _),fun i _ h=>absurd h (Nat.not_lt_zero _)⟩
 | n+1,hm=>by
  obtain ⟨k,h1,h2,h3⟩:=zmY n (fun i j hij hj=>hm i j hij (by omega))
  by_cases hn:A n
  · refine ⟨n+1,Nat.le_refl _,fun i hi=>?_,fun i h4 h5=>by omega⟩
    rcases Nat.lt_or_ge i n with h|h
    · exact hm i n h (by omega) hn
    · have:i=n:=by omega
      rw [this];exact hn
  · refine ⟨k,by omega,h2,fun i h4 h5=>?_⟩
    rcases Nat.lt_or_ge i n with h|h
    · exact h3 i h4 h
    · have:i=n:=by omega
      rw [this];exact hn
theorem zi0 {T:Type} [Inhabited T] {p:T→Bool}:∀ (l:List T) (k:Nat),k≤l.length→(∀ i,i<k→p (l.getD i default)=true)→(k<l.length→p (l.getD k default)=false)→l.takeWhile p=l.take k∧l.dropWhile p=l.drop k
 | [],k,hk,_,_=>by simp
 | a::l,0,hk,h1,h2=>by
  have:=h2 (by simp)
  simp at this
  simp [this]
 | a::l,k+1,hk,h1,h2=>by
  have h0:=h1 0 (by omega)
  simp at h0
  obtain ⟨q1,q2⟩:=zi0 l k (by simpa using hk) (fun i hi=>by simpa using h1 (i+1) (by omega)) (fun hi=>by simpa using h2 (by simpa using hi))
  simp [h0,q1,q2]
theorem znD {T:Type} (f:T→Int):∀ {a b:List T},a.Pairwise (fun x y=>f x<f y)→b.Pairwise (fun x y=>f x<f y)→(∀ z,z∈a↔z∈b)→a=b
 | [],[],_,_,_=>rfl
 | [],y::b,_,_,h=>by have:=(h y).2 (by simp);simp at this
 | x::a,[],_,_,h=>by have:=(h x).1 (by simp);simp at this
 | x::a,y::b,ha,hb,h=>by
  rw [List.pairwise_cons] at ha hb
  have hxy:x=y:=by
   rcases List.mem_cons.1 ((h x).1 (by simp)) with e|e
   · exact e
   · rcases List.mem_cons.1 ((h y).2 (by simp)) with e2|e2
     · exact e2.symm
     · have h1:=hb.1 x e;have h2:=ha.1 y e2;omega
  subst hxy
  congr 1
  refine znD f ha.2 hb.2 (fun z=>?_)
  constructor
  · intro hz
    rcases List.mem_cons.1 ((h z).1 (by simp [hz])) with e|e
    · have:=ha.1 z hz;rw [e] at this;omega
    · exact e
  · intro hz
    rcases List.mem_cons.1 ((h z).2 (by simp [hz])) with e|e
    · have:=hb.1 z hz;rw [e] at this;omega
    · exact e
theorem zkp {T:Type} [Inhabited T] (f:T→Int) {l:List T} (h:∀ i,0<i→i<l.length→f (l.getD (i - 1) default)<f (l.getD i default)):l.Pairwise (fun a b=>f a<f b):=by
 rw [List.pairwise_iff_getElem]
 intro i j hi hj hij
 have step:∀ k,i+1+k<l.length→f l[i]<f (l.getD (i+1+k) default):=by
  intro k
  induction k with
  | zero=>
   intro hk
   have:=h (i+1) (by omega) hk
   have e:l.getD (i+1 - 1) default=l[i]:=by simp [List.getElem?_eq_getElem hi]
   rw [e] at this;exact this
  | succ k ih=>
   intro hk
   have h1:=ih (by omega)
   have h2:=h (i+1+(k+1)) (by omega) hk
   have e:i+1+(k+1) - 1=i+1+k:=by omega
   rw [e] at h2;omega
 have:=step (j - i - 1) (by omega)
 have e:i+1+(j - i - 1)=j:=by omega
 rw [e] at this
 simpa [List.getElem?_eq_getElem hj] using this
theorem zfi {T:Type} [Inhabited T] {f:T→Int} {l:List T} (hs:l.Pairwise (fun a b=>f a<f b)) {i j:Nat} (hij:i<j) (hj:j<l.length):f (l.getD i default)<f (l.getD j default):=by
 have:=List.pairwise_iff_getElem.1 hs i j (by omega) hj hij
 simpa [List.getElem?_eq_getElem hj,List.getElem?_eq_getElem (show i<l.length by omega)] using this
theorem znC {T:Type} [Inhabited T] {f:T→Int} {l:List T} (hs:l.Pairwise (fun a b=>f a<f b)) {x y:T} (hx:x∈l) (hy:y∈l) (e:f x=f y):x=y:=by
 obtain ⟨i,hi,rfl⟩:=zeZ hx
 obtain ⟨j,hj,rfl⟩:=zeZ hy
 rcases Nat.lt_trichotomy i j with q|q|q
 · have:=zfi hs q hj;omega
 · rw [q]
 · have:=zfi hs q hi;omega
theorem zlh {T:Type} [Inhabited T] (f:T→Int) {l:List T} (hs:l.Pairwise (fun a b=>f a<f b)) (s:Int):∃ k,k≤l.length∧(∀ i,i<k→f (l.getD i default)<s)∧(∀ i,k≤i→i<l.length→¬ f (l.getD i default)<s) ∧
 ((∀ y∈l,f y≠s)↔¬ (k<l.length∧f (l.getD k default)=s))∧l.takeWhile (fun y=>decide (f y<s))=l.take k∧l.dropWhile (fun y=>decide (f y<s))=l.drop k:=by
 obtain ⟨k,k1,k2,k3⟩:=zmY (A:=fun i=>f (l.getD i default)<s) l.length (fun i j hij hj h=>Int.lt_trans (zfi hs hij hj) h)
 refine ⟨k,k1,k2,k3,⟨fun h hk=>h _ (zcz hk.1) hk.2,fun h y hy e=>?_⟩,zi0 l k k1 (fun i hi=>decide_eq_true (k2 i hi)) (fun hk=>decide_eq_false (k3 k (Nat.le_refl _) hk))⟩
 obtain ⟨i,hi,rfl⟩:=zeZ hy
 rcases Nat.lt_trichotomy i k with hik|hik|hik
 · have:=k2 i hik;omega
 · subst hik;exact h ⟨hi,e⟩
 · have h1:=zfi hs hik hi
   have h2:=k3 k (Nat.le_refl _) (by omega)
   omega
theorem zqN {T:Type} (l:List T) (k:Nat):(l.take k++l.drop (k+1)).Sublist l:=by
 have:=List.Sublist.append (List.Sublist.refl (l.take k)) (List.drop_sublist_drop_left l (Nat.le_succ k))
 rwa [List.take_append_drop] at this
theorem zli {T:Type} {f:T→Int} {l:List T} (hs:l.Pairwise (fun a b=>f a<f b)):l.Nodup:=hs.imp (fun h e=>by rw [e] at h;omega)
end Go.Sp
end
/- slices.IndexFunc and slices.DeleteFunc, as they are printed. No program in sight. -/
section
set_option linter.all false
namespace Go.Sp
open Go.Av
set_option maxRecDepth 100000
theorem ze1 {T:Type} [Inhabited T] {p:T→Option Bool} {q:T→Bool} (hp:∀ x,p x=some (q x)) (l:List T) :
 (zav (fun i1 (s1:Unit) k1=>zao (p (l.getD i1 default)) fun y3=>(bif y3 then some (i1:Int) else k1 ())) (fun (s1:Unit)=>some (-1)) l.length 0 ():Option Int)=some (match l.findIdx? q with|some i=>(i:Int)|none=>-1):=by
 refine (ziX (P:=fun r=>r=(match l.findIdx? q with|some i=>(i:Int)|none=>-1)) (fun i=>q (l.getD i default)=false) (fun i K hi hb hK=>?_) (fun h1=>?_)).eq
 · rw [hp]
   refine zbu (fun h=>zap ?_) (fun h=>hK h)
   have:l.findIdx? q=some i:=by
    rw [List.findIdx?_eq_some_iff_getElem]
    refine ⟨hi,?_,fun j hj=>?_⟩
    · rw [List.getD_eq_getElem?_getD,List.getElem?_eq_getElem hi] at h;exact h
    · have:=hb j hj
      rw [List.getD_eq_getElem?_getD,List.getElem?_eq_getElem (by omega)] at this
      simpa using this
   rw [this]
 · refine zap ?_
   have:l.findIdx? q=none:=by
    rw [List.findIdx?_eq_none_iff]
    intro x hx
    obtain ⟨i,hi,rfl⟩:=zeZ hx
    exact h1 i hi
   rw [this]
theorem zl9 {T:Type} {l:List T} {i:Nat} {x:T} (h:i<l.length):(l.set i x).take (i+1)=l.take i++[x]:=by
 rw [List.take_add_one,List.getElem?_set_self h,List.take_set_of_le (Nat.le_refl _)];rfl
theorem zma {T:Type} [Inhabited T] (l:List T) (a m:Nat) (f:Nat→T) (h:a≤l.length):(zbi l a m f).take a=l.take a:=by
 refine znr (by simp [zbi]) (fun i hi=>?_)
 have hi':i<a:=by simp [zbi] at hi;omega
 rw [getD_take,getD_take,if_pos hi',if_pos hi']
 unfold zbi
 rw [List.getD_eq_getElem?_getD,List.getElem?_map,List.getElem?_range (by omega)]
 simp only [Option.map_some,Option.getD_some]
 rw [if_neg (by omega)]
theorem zhK {T:Type} [Inhabited T] {l:List T} {i:Nat} (h:i<l.length):l.drop i=l.getD i default::l.drop (i+1):=by
 rw [List.getD_eq_getElem?_getD,List.getElem?_eq_getElem h];exact List.drop_eq_getElem_cons h
theorem zi7 {T:Type} [Inhabited T] {l:List T} {i:Nat} (h:i<l.length):l.take (i+1)=l.take i++[l.getD i default]:=by
 rw [List.take_add_one,List.getD_eq_getElem?_getD,List.getElem?_eq_getElem h];rfl
theorem zk7 {T:Type} [Inhabited T] (z:T) {p:T→Option Bool} {q:T→Bool} (hp:∀ x,p x=some (q x)) (l:List T) (fuel:Nat) (hf:l.length<fuel) (hl:l.length<9223372036854775807) :
 (zao (zav (fun i1 (s1:Unit) k1=>zao (p (l.getD i1 default)) fun y3=>(bif y3 then some (i1:Int) else k1 ())) (fun (s1:Unit)=>some (-1)) l.length 0 ():Option Int) fun y1=>(bif (decide (y1=(-1))) then some l else must (inI (y1+1)) <| (loopGo (fun (s5:Int×Int×(List T)) k5=>(bif (decide (s5.2.1<((s5.2.2.length:Nat):Int))) then must (0≤(s5.2.1:Int)∧(s5.2.1:Int)<((s5.2.2.length:Nat):Int)) <| zao (p (s5.2.2.getD (s5.2.1).toNat default)) fun y8=>(bif (!y8) then must (0≤(s5.1:Int)∧(s5.1:Int)<((s5.2.2.length:Nat):Int)) <| must (inI (s5.1+1)) <| must (inI (s5.2.1+1)) <| k5 ((s5.1+1),(s5.2.1+1),(s5.2.2.set (s5.1).toNat (s5.2.2.getD (s5.2.1).toNat default))) else must (inI (s5.2.1+1)) <| k5 (s5.1,(s5.2.1+1),s5.2.2)) else must (0<s5.2.2.length∧0≤(s5.1:Int)∧(s5.1:Int)≤((s5.2.2.length:Nat):Int)) <| must (0<(zbi s5.2.2 ((s5.1).toNat) (s5.2.2.length - (s5.1).toNat) (fun _=>z)).length∧0≤(s5.1:Int)∧(s5.1:Int)≤(((zbi s5.2.2 ((s5.1).toNat) (s5.2.2.length - (s5.1).toNat) (fun _=>z)).length:Nat):Int)) <| some ((zbi s5.2.2 ((s5.1).toNat) (s5.2.2.length - (s5.1).toNat) (fun _=>z)).take ((s5.1).toNat)))) fuel (y1,(y1+1),l))):Option (List T))=some (l.filter (fun x=>!q x)):=by
 rw [ze1 hp l]
 refine Wp.eq (zat rfl ?_)
 cases hi:l.findIdx? q with
 | none=>
  rw [List.findIdx?_eq_none_iff] at hi
  refine zaY (by simp) (zap ?_)
  exact (List.filter_eq_self.2 (fun x hx=>by rw [hi x hx];rfl)).symm
 | some i=>
  rw [List.findIdx?_eq_some_iff_getElem] at hi
  obtain ⟨h1,h2,h3⟩:=hi
  refine zaR (by simp) (zaq (by simp only;omega) ?_)
  refine wp_loop (fun s=>∃ a b:Nat,s.1=(a:Int)∧s.2.1=(b:Int)∧a<b∧b≤l.length∧s.2.2.length=l.length∧s.2.2.take a=(l.take b).filter (fun x=>!q x)∧s.2.2.drop b=l.drop b) (fun s=>l.length - s.2.1.toNat) (by simp only;omega) ⟨i,i+1,rfl,by simp,by omega,by omega,rfl,?_,rfl⟩ ?_
  · rw [zi7 h1,List.filter_append]
    have e1:(l.take i).filter (fun x=>!q x)=l.take i:=List.filter_eq_self.2 (fun x hx=>by
     obtain ⟨j,hj,rfl⟩:=List.getElem_of_mem hx
     have hj':j<i:=by simp at hj;omega
     have:=h3 j hj'
     simp only [List.getElem_take]
     simpa using this)
    have e2:q (l.getD i default)=true:=by rw [List.getD_eq_getElem?_getD,List.getElem?_eq_getElem h1];exact h2
    rw [e1];simp [e2,-List.getD_eq_getElem?_getD]
  · rintro ⟨s1,s2,s3⟩ K ⟨a,b,rfl,rfl,hab,hb,hlen,ht,hd⟩ hK
    simp only at hK ht hd hlen ⊢
    refine zch (fun hlt=>?_) (fun hge=>?_)
    · have hbl:b<l.length:=by omega
      refine zas (by omega) ?_
      rw [hp]
      simp only [Int.toNat_natCast]
      have ex:s3.getD b default=l.getD b default:=by
       have:=zhK (l:=s3) (i:=b) (by omega)
       rw [hd,zhK hbl] at this
       exact (List.cons.inj this).1.symm
      have hd1:s3.drop (b+1)=l.drop (b+1):=by
       have:=zhK (l:=s3) (i:=b) (by omega)
       rw [hd,zhK hbl] at this
       exact (List.cons.inj this).2.symm
      refine zat rfl ?_
      rw [ex]
      refine zbu (fun hq=>?_) (fun hq=>?_)
      · refine zas (by omega) (zaq (by omega) (zaq (by omega) ?_))
        refine hK _ ⟨a+1,b+1,by simp,by simp,by omega,by omega,by simp [hlen],?_,?_⟩ (by simp only;omega)
        · rw [zl9 (by omega),ht,zi7 hbl,List.filter_append]
          simp only [Bool.not_eq_true'] at hq
          simp [hq,-List.getD_eq_getElem?_getD]
        · rw [List.drop_set_of_lt (by omega)];exact hd1
      · refine zaq (by omega) (hK _ ⟨a,b+1,rfl,by simp,by omega,by omega,hlen,?_,hd1⟩ (by simp only;omega))
        rw [ht,zi7 hbl,List.filter_append]
        simp only [Bool.not_eq_false'] at hq
        simp [hq,-List.getD_eq_getElem?_getD]
    · refine zas (by omega) (zas ?_ (zap ?_))
      · rw [zfE];omega
      · simp only [Int.toNat_natCast]
        rw [zma _ _ _ _ (by omega),ht,List.take_of_length_le (by omega)]
end Go.Sp
end
/- Plain laws, mantle: valid batches, mantles, burns, looks and wears, checked by both. No program in sight. -/
section
set_option linter.all false
namespace Go.Sp
open Go.Av
set_option maxRecDepth 100000
structure BatchOk (b:Batch):Prop where
 id:1≤b.Id∧b.Id≤99
 life:0≤b.Life.Lo∧b.Life.Lo≤b.Life.Hi∧b.Life.Hi≤1000000
structure ToldOk (s l n k u:Int):Prop where
 src:1≤s∧s≤99999
 lamp:1≤l∧l≤999
 night:0≤n∧n≤100000
 known:0≤k∧k≤100000
 til:u=0∨(k<u∧u≤100000)
structure MantleOk (m:Mantle):Prop where
 told:ToldOk m.Source m.Lamp m.Night m.Known m.Until
 batch:1≤m.Batch∧m.Batch≤99
structure BurnOk (b:Burn):Prop where
 told:ToldOk b.Source b.Lamp b.Night b.Known b.Until
 min:0≤b.Minutes.Lo∧b.Minutes.Lo≤b.Minutes.Hi∧b.Minutes.Hi≤1440
def zjO (l:Look):Prop:=ToldOk l.Source l.Lamp l.Night l.Known l.Until
theorem mwithin {a b c:Int}:zaL a b c=(decide (b≤a) && decide (a≤c)):=rfl
theorem bif0 (b:Bool) {c:Int} (hc:c≠0):((bif b then c else 0)=0)↔b=false:=by cases b <;> simp [-List.getD_eq_getElem?_getD,hc]
theorem zjL (b:Bool) (c:Int):(bif b then c else 0)=0∨(bif b then c else 0)=c:=by cases b <;> simp [-List.getD_eq_getElem?_getD]
theorem zgE {n k u:Int}:zaZ n k u=true↔(0≤n∧n≤100000)∧(0≤k∧k≤100000)∧(u=0∨(k<u∧u≤100000)):=by
 simp only [zaZ,zaM,mwithin,Bool.and_eq_true,Bool.or_eq_true,decide_eq_true_eq]
 omega
theorem zfB {b:Batch}:za4 b=0↔BatchOk b:=by
 unfold za4
 rw [bif0 _ (by decide)]
 simp only [zby,mwithin,Bool.or_eq_false_iff,Bool.not_eq_false',Bool.and_eq_true,decide_eq_true_eq]
 exact ⟨fun h=>⟨h.1,by omega⟩,fun h=>⟨h.id,by have:=h.life;omega⟩⟩
theorem zei {m:Mantle}:zaT m=0↔MantleOk m:=by
 unfold zaT
 rw [bif0 _ (by decide)]
 simp only [zaW,zaN,mwithin,Bool.or_eq_false_iff,Bool.not_eq_false',Bool.and_eq_true,decide_eq_true_eq,zgE]
 exact ⟨fun h=>⟨⟨h.1.1.1,h.1.1.2,h.2.1,h.2.2.1,h.2.2.2⟩,h.1.2⟩,fun h=>⟨⟨⟨h.told.src,h.told.lamp⟩,h.batch⟩,h.told.night,h.told.known,h.told.til⟩⟩
theorem zfn {m:Burn}:za2 m=0↔BurnOk m:=by
 unfold za2
 rw [bif0 _ (by decide)]
 simp only [zaW,zaN,zby,mwithin,Bool.or_eq_false_iff,Bool.not_eq_false',Bool.and_eq_true,decide_eq_true_eq,zgE]
 exact ⟨fun h=>⟨⟨h.1.1.1,h.1.1.2,h.2.1,h.2.2.1,h.2.2.2⟩,by have:=h.1.2;omega⟩,fun h=>⟨⟨⟨h.told.src,h.told.lamp⟩,by have:=h.min;omega⟩,h.told.night,h.told.known,h.told.til⟩⟩
theorem zfm {m:Look}:zaU m=0↔zjO m:=by
 unfold zaU
 rw [bif0 _ (by decide)]
 simp only [zaW,zaN,mwithin,Bool.or_eq_false_iff,Bool.not_eq_false',Bool.and_eq_true,decide_eq_true_eq,zgE]
 exact ⟨fun h=>⟨h.1.1,h.1.2,h.2.1,h.2.2.1,h.2.2.2⟩,fun h=>⟨⟨h.src,h.lamp⟩,h.night,h.known,h.til⟩⟩
theorem zjp (s l n k u:Int):∃ b,zbh ⟨s,l,n,k,u⟩=some b∧(b=true↔ToldOk s l n k u):=by
 unfold zbh
 rw [zgP (fun h=>by
  simp only [zax,zan,Bool.and_eq_true,decide_eq_true_eq] at h
  show inI (k+1)
  have:=h.1.2
  unfold inI;omega)]
 refine ⟨_,rfl,?_⟩
 simp only [zax,zan,Bool.and_eq_true,Bool.or_eq_true,decide_eq_true_eq]
 exact ⟨fun h=>⟨h.1.1.1.1,h.1.1.1.2,h.1.1.2,h.1.2,by omega⟩,fun h=>⟨⟨⟨⟨h.src,h.lamp⟩,h.night⟩,h.known⟩,by have:=h.til;have:=h.known;omega⟩⟩
theorem zmh (b:Batch):zaA b=za4 b:=by
 have h:zaA b=0↔BatchOk b:=by
  unfold zaA
  rw [bif0 _ (by decide)]
  simp only [zan,Bool.or_eq_false_iff,Bool.not_eq_false',Bool.and_eq_true,decide_eq_true_eq,decide_eq_false_iff_not]
  exact ⟨fun h=>⟨h.1.1,by omega⟩,fun h=>⟨⟨h.id,by have:=h.life;omega⟩,by have:=h.life;omega⟩⟩
 rw [← zfB] at h
 have h1:=zjL (((!(zan b.Id 1 99)) || (!(zan b.Life.Lo 0 b.Life.Hi))) || (decide (1000000<b.Life.Hi))) 60
 have h2:=zjL ((!(zaL b.Id 1 99)) || (!(zby b.Life 1000000))) 60
 change zaA b=0∨zaA b=60 at h1
 change za4 b=0∨za4 b=60 at h2
 omega
theorem zlq (m:Mantle):zbj m=some (zaT m):=by
 unfold zbj
 obtain ⟨b,e,hb⟩:=zjp m.Source m.Lamp m.Night m.Known m.Until
 rw [e]
 have h2:=zjL ((((!(zaW m.Source)) || (!(zaN m.Lamp))) || (!(zaL m.Batch 1 99))) || (!(zaZ m.Night m.Known m.Until))) 61
 change zaT m=0∨zaT m=61 at h2
 refine (zbu (P:=(· = zaT m)) (fun h=>zap ?_) (fun h=>zap ?_)).eq
 · have:¬ MantleOk m:=fun V=>by
    have h3:=hb.2 V.told
    have:=V.batch
    simp [-List.getD_eq_getElem?_getD,h3,zan] at h;omega
   rw [← zei] at this;omega
 · have:MantleOk m:=by
    simp only [Bool.or_eq_false_iff,Bool.not_eq_false',zan,Bool.and_eq_true,decide_eq_true_eq] at h
    exact ⟨hb.1 h.1,h.2⟩
   exact (zei.2 this).symm
theorem znI (m:Burn):zbE m=some (za2 m):=by
 unfold zbE
 obtain ⟨b,e,hb⟩:=zjp m.Source m.Lamp m.Night m.Known m.Until
 rw [e]
 have h2:=zjL ((((!(zaW m.Source)) || (!(zaN m.Lamp))) || (!(zby m.Minutes 1440))) || (!(zaZ m.Night m.Known m.Until))) 62
 change za2 m=0∨za2 m=62 at h2
 refine (zbu (P:=(· = za2 m)) (fun h=>zap ?_) (fun h=>zap ?_)).eq
 · have:¬ BurnOk m:=fun V=>by
    have h3:=hb.2 V.told
    have:=V.min
    simp [-List.getD_eq_getElem?_getD,h3,zan] at h;omega
   rw [← zfn] at this;omega
 · have:BurnOk m:=by
    simp only [Bool.or_eq_false_iff,Bool.not_eq_false',zan,Bool.and_eq_true,decide_eq_true_eq,decide_eq_false_iff_not] at h
    exact ⟨hb.1 h.1.1,by omega⟩
   exact (zfn.2 this).symm
theorem znH (m:Look):zbD m=some (zaU m):=by
 unfold zbD
 obtain ⟨b,e,hb⟩:=zjp m.Source m.Lamp m.Night m.Known m.Until
 rw [e]
 have h2:=zjL (((!(zaW m.Source)) || (!(zaN m.Lamp))) || (!(zaZ m.Night m.Known m.Until))) 63
 change zaU m=0∨zaU m=63 at h2
 refine (zbu (P:=(· = zaU m)) (fun h=>zap ?_) (fun h=>zap ?_)).eq
 · have:¬ zjO m:=fun V=>by simp [-List.getD_eq_getElem?_getD,hb.2 V] at h
   rw [← zfm] at this;omega
 · have:zjO m:=hb.1 (by simpa [-List.getD_eq_getElem?_getD] using h)
   exact (zfm.2 this).symm
def ziM {T:Type} [Inhabited T] (ok:T→Prop) (num:T→Int) (l:List T):Prop:=∀ i,i<l.length→ok (l.getD i default)∧(0<i→num (l.getD (i - 1) default)<num (l.getD i default))
theorem zgX {T:Type} [Inhabited T] {chk num:T→Int} {ok:T→Prop} (hok:∀ x,chk x=0↔ok x) {l:List T} {p1:Int} (hl:l.length≤9223372036854775807) :
 Wp (zav (fun i1 (s1:Unit) k1=>zao ((fun x0=>some (chk x0)) (l.getD i1 default)) fun y3=>must ((((!(!decide (y3=0))) && (decide (0<(i1:Int))))=true→(inI ((i1:Int) - 1)))) <| must ((((!(!decide (y3=0))) && (decide (0<(i1:Int))))=true→(0≤(((i1:Int) - 1):Int)∧(((i1:Int) - 1):Int)<((l.length:Nat):Int)))) <| zao ((bif ((!(!decide (y3=0))) && (decide (0<(i1:Int)))) then (fun x0=>some (num x0)) (l.getD (((i1:Int) - 1)).toNat default) else some default)) fun y7=>zao ((bif ((!(!decide (y3=0))) && (decide (0<(i1:Int)))) then (fun x0=>some (num x0)) (l.getD i1 default) else some default)) fun y9=>(bif ((!decide (y3=0)) || ((decide (0<(i1:Int))) && (decide (y9≤y7)))) then some false else k1 ())) (fun (s1:Unit)=>some (decide (((l.length:Nat):Int)≤p1))) l.length 0 ():Option Bool)
  (fun b=>b=true↔ziM ok num l∧(l.length:Int)≤p1):=by
 refine ziX (fun i=>ok (l.getD i default)∧(0<i→num (l.getD (i - 1) default)<num (l.getD i default))) (fun i K hi _ hK=>?_) (fun h1=>zap ?_)
 · refine zat rfl ?_
   refine zas (fun _=>by unfold inI;omega) ?_
   refine zas (fun h=>by simp [-List.getD_eq_getElem?_getD] at h;omega) ?_
   have e:(((i:Int) - 1)).toNat=i - 1:=by omega
   rw [e]
   refine zlg (Q:=fun y=>y=num (l.getD (i - 1) default)) (fun _=>zap rfl) (fun y7 h7=>?_)
   refine zlg (Q:=fun y=>y=num (l.getD i default)) (fun _=>zap rfl) (fun y9 h9=>?_)
   by_cases hc:chk (l.getD i default)=0
   · by_cases h0:0<i
     · have hW:((!(!decide (chk (l.getD i default)=0))) && (decide (0<(i:Int))))=true:=by simp [-List.getD_eq_getElem?_getD,hc,h0]
       rw [h7 hW,h9 hW]
       refine zbu (fun hb=>zap ?_) (fun hb=>hK ⟨(hok _).1 hc,fun _=>?_⟩)
       · simp only [hc,decide_true,Bool.not_true,Bool.false_or,Bool.and_eq_true,decide_eq_true_eq] at hb
         refine ⟨fun h=>(by cases h),fun h=>?_⟩
         have:=(h.1 i hi).2 h0;omega
       · simp only [hc,decide_true,Bool.not_true,Bool.false_or,Bool.and_eq_false_iff,decide_eq_false_iff_not] at hb
         omega
     · refine zaR (by simp [-List.getD_eq_getElem?_getD,hc];omega) (hK ⟨(hok _).1 hc,fun h=>absurd h h0⟩)
   · refine zaY (by simp [-List.getD_eq_getElem?_getD,hc]) (zap ⟨fun h=>(by cases h),fun h=>absurd ((hok _).2 (h.1 i hi).1) hc⟩)
 · simp only [decide_eq_true_eq]
   exact ⟨fun h=>⟨h1,h⟩,fun h=>h.2⟩
structure WearOk (w:Wear):Prop where
 nb:w.Batches.length≤8
 nm:w.Mantles.length≤60
 nu:w.Burns.length≤60
 nl:w.Looks.length≤60
 ba:ziM BatchOk (·.Id) w.Batches
 ma:ziM MantleOk (·.Source) w.Mantles
 bu:ziM BurnOk (·.Source) w.Burns
 lo:ziM zjO (·.Source) w.Looks
 has:∀ i,i<w.Mantles.length→∃ j,j<w.Batches.length∧(w.Batches.getD j default).Id=(w.Mantles.getD i default).Batch
structure Fits (w:Wear):Prop where
 b:w.Batches.length≤4611686018427387904
 m:w.Mantles.length≤4611686018427387904
 u:w.Burns.length≤4611686018427387904
 l:w.Looks.length≤4611686018427387904
theorem zqG {w:Wear} {p q r s:Prop} (h:(w.Batches.length * 24≤140737488351232∧p)∧(w.Mantles.length * 48≤140737488351232∧q)∧(w.Burns.length * 56≤140737488351232∧r)∧(w.Looks.length * 48≤140737488351232∧s)):Fits w:=⟨by have:=h.1.1;omega,by have:=h.2.1.1;omega,by have:=h.2.2.1.1;omega,by have:=h.2.2.2.1;omega⟩
theorem zqD {T:Type} {l:List T} {p:Prop} (h:l.length * 8≤140737488351232∧p):l.length≤9223372036854775807:=by have:=h.1;omega
theorem WearOk.fits {w:Wear} (h:WearOk w):Fits w:=⟨by have:=h.nb;omega,by have:=h.nm;omega,by have:=h.nu;omega,by have:=h.nl;omega⟩
def zcI (w:Wear) (id:Int):Int:=match w.Batches.findIdx? (fun b=>decide (b.Id=id)) with
 | some i=>(i:Int)
 | none=>-1
theorem zin (w:Wear) (id:Int):zb7 w id=some (zcI w id):=by
 unfold zb7 zcf
 rw [ze1 (p:=fun x0=>some (zck x0 id)) (q:=fun b=>decide (b.Id=id)) (fun x=>rfl)]
 rfl
theorem zft {w:Wear} {id:Int}:zcI w id<0↔¬ ∃ j,j<w.Batches.length∧(w.Batches.getD j default).Id=id:=by
 unfold zcI
 cases h:w.Batches.findIdx? (fun b=>decide (b.Id=id)) with
 | none=>
  rw [List.findIdx?_eq_none_iff] at h
  simp only [Int.reduceNeg,Int.reduceLT,true_iff]
  rintro ⟨j,hj,e⟩
  have:=h _ (zcz hj)
  simp [-List.getD_eq_getElem?_getD,e] at this
 | some i=>
  rw [List.findIdx?_eq_some_iff_getElem] at h
  obtain ⟨h1,h2,h3⟩:=h
  refine ⟨fun h=>by simp [-List.getD_eq_getElem?_getD] at h;omega,fun h=>absurd ⟨i,h1,?_⟩ h⟩
  rw [List.getD_eq_getElem?_getD,List.getElem?_eq_getElem h1]
  simpa [-List.getD_eq_getElem?_getD] using h2
theorem zgD (w:Wear) (id:Int):zcI w id<(w.Batches.length:Int):=by
 unfold zcI
 cases h:w.Batches.findIdx? (fun b=>decide (b.Id=id)) with
 | none=>simp [-List.getD_eq_getElem?_getD];omega
 | some i=>
  rw [List.findIdx?_eq_some_iff_getElem] at h
  obtain ⟨h1,h2,h3⟩:=h
  simp [-List.getD_eq_getElem?_getD];omega
theorem zl0 {w:Wear} {id:Int} (h:0≤zcI w id):(w.Batches.getD (zcI w id).toNat default).Id=id:=by
 unfold zcI at h ⊢
 cases h':w.Batches.findIdx? (fun b=>decide (b.Id=id)) with
 | none=>rw [h'] at h;simp [-List.getD_eq_getElem?_getD] at h
 | some i=>
  rw [List.findIdx?_eq_some_iff_getElem] at h'
  obtain ⟨h1,h2,h3⟩:=h'
  simp only [Int.toNat_natCast]
  rw [List.getD_eq_getElem?_getD,List.getElem?_eq_getElem h1]
  simpa [-List.getD_eq_getElem?_getD] using h2
theorem ziM.sorted {T:Type} [Inhabited T] {ok:T→Prop} {num:T→Int} {l:List T} (h:ziM ok num l):l.Pairwise (fun a b=>num a<num b):=zkp num (fun i h0 hi=>(h i hi).2 h0)
theorem ziM.ok {T:Type} [Inhabited T] {ok:T→Prop} {num:T→Int} {l:List T} (h:ziM ok num l) {x:T} (hx:x∈l):ok x:=by
 obtain ⟨i,hi,rfl⟩:=zeZ hx
 exact (h i hi).1
theorem ziM.inj {T:Type} [Inhabited T] {ok:T→Prop} {num:T→Int} {l:List T} (h:ziM ok num l) {i j:Nat} (hi:i<l.length) (hj:j<l.length) (e:num (l.getD i default)=num (l.getD j default)):i=j:=by
 rcases Nat.lt_trichotomy i j with h1|h1|h1
 · have:=zfi h.sorted h1 hj;omega
 · exact h1
 · have:=zfi h.sorted h1 hi;omega
theorem zlw {w:Wear} (hf:Fits w):Wp (zb8 w) (fun r=>(WearOk w∧r=0)∨(¬ WearOk w∧r=64)):=by
 unfold zb8
 have a1:=zgX (chk:=za4) (num:=zcR) (fun _=>zfB) (l:=w.Batches) (p1:=8) (by have:=hf.b;omega)
 have a2:=zgX (chk:=zaT) (num:=zcQ) (fun _=>zei) (l:=w.Mantles) (p1:=60) (by have:=hf.m;omega)
 have a3:=zgX (chk:=za2) (num:=zcP) (fun _=>zfn) (l:=w.Burns) (p1:=60) (by have:=hf.u;omega)
 have a4:=zgX (chk:=zaU) (num:=zdh) (fun _=>zfm) (l:=w.Looks) (p1:=60) (by have:=hf.l;omega)
 refine wp_bind (x:=zcx w.Batches 8 _ _) a1 (fun y1 h1=>?_)
 refine wp_bind (x:=zcp w.Mantles 60 _ _) a2 (fun y3 h3=>?_)
 refine wp_bind (x:=zcJ w.Burns 60 _ _) a3 (fun y5 h5=>?_)
 refine zlg (Q:=fun y=>y=true↔ziM zjO (·.Source) w.Looks∧(w.Looks.length:Int)≤60) (fun _=>a4) (fun y7 h7=>?_)
 refine zlg (Q:=fun y=>y=false↔∀ i,i<w.Mantles.length→∃ j,j<w.Batches.length∧(w.Batches.getD j default).Id=(w.Mantles.getD i default).Batch) (fun _=>?_) (fun y9 h9=>?_)
 · unfold zbJ zb3
   rw [ze1 (p:=fun x0=>zcO x0 w) (q:=fun m=>decide (zcI w m.Batch<0)) (fun x=>by
    unfold zcO;rw [zin];rfl)]
   refine zat rfl (zap ?_)
   cases h:w.Mantles.findIdx? (fun m=>decide (zcI w m.Batch<0)) with
   | none=>
    rw [List.findIdx?_eq_none_iff] at h
    refine ⟨fun _ i hi=>?_,fun _=>rfl⟩
    have:=h _ (zcz hi)
    simp only [decide_eq_false_iff_not,zft,Classical.not_not] at this
    exact this
   | some i=>
    rw [List.findIdx?_eq_some_iff_getElem] at h
    obtain ⟨k1,k2,k3⟩:=h
    refine ⟨fun e=>(by simp [-List.getD_eq_getElem?_getD] at e),fun e=>?_⟩
    have:=e i k1
    rw [List.getD_eq_getElem?_getD (l:=w.Mantles),List.getElem?_eq_getElem k1] at this
    simp only [decide_eq_true_eq,zft] at k2
    exact absurd this k2
 · refine zbu (fun hb=>zap (.inr ⟨fun V=>?_,rfl⟩)) (fun hb=>zap (.inl ⟨?_,rfl⟩))
   · have e1:=h1.2 ⟨V.ba,by have:=V.nb;omega⟩
     have e3:=h3.2 ⟨V.ma,by have:=V.nm;omega⟩
     have e5:=h5.2 ⟨V.bu,by have:=V.nu;omega⟩
     have e7:=(h7 (by simp [-List.getD_eq_getElem?_getD,e1,e3,e5])).2 ⟨V.lo,by have:=V.nl;omega⟩
     have e9:=(h9 (by simp [-List.getD_eq_getElem?_getD,e1,e3,e5,e7])).2 V.has
     simp [-List.getD_eq_getElem?_getD,e1,e3,e5,e7,e9] at hb
   · simp only [Bool.or_eq_false_iff,Bool.not_eq_false'] at hb
     obtain ⟨⟨⟨⟨e1,e3⟩,e5⟩,e7⟩,e9⟩:=hb
     have f7:=(h7 (by simp [-List.getD_eq_getElem?_getD,e1,e3,e5])).1 e7
     have f9:=(h9 (by simp [-List.getD_eq_getElem?_getD,e1,e3,e5,e7])).1 e9
     have f1:=h1.1 e1
     have f3:=h3.1 e3
     have f5:=h5.1 e5
     exact ⟨by omega,by omega,by omega,by omega,f1.1,f3.1,f5.1,f7.1,f9⟩
theorem zlx {w:Wear} (h:WearOk w):zb8 w=some 0:=by
 obtain ⟨r,e,h1|h1⟩:=zlw h.fits
 · rw [e,h1.2]
 · exact absurd h h1.1
theorem znP {w:Wear} (hf:Fits w) (h:¬ WearOk w):zb8 w=some 64:=by
 obtain ⟨r,e,h1|h1⟩:=zlw hf
 · exact absurd h1.1 h
 · rw [e,h1.2]
end Go.Sp
end
/- Plain laws, mantle: the document's check; one look more, by both; MantleChecks. No program in sight. -/
section
set_option linter.all false
namespace Go.Sp
open Go.Av
set_option maxRecDepth 100000
theorem zfZ {R:Type} {body:Int→(Int→Option R)→Option R} {fuel:Nat} {P:R→Prop} {n:Nat} (hf:n<fuel) (good:Nat→Prop)
 (hb:∀ (i:Nat) (K:Int→Option R),i<n→(∀ j,j<i→good j)→(good i→Wp (K ((i:Int)+1)) P)→Wp (body (i:Int) K) P) (he:(∀ j,j<n→good j)→∀ K,Wp (body (n:Int) K) P):Wp (loopGo body fuel 0) P:=by
 refine zqp n hf (fun i=>∀ j,j<i→good j) (fun j hj=>by omega) (fun i K hi hI hK=>?_)
 by_cases e:i=n
 · subst e;exact he hI K
 · exact hb i K (by omega) hI (fun g=>hK (by omega) (fun j hj=>by
    by_cases e:j=i
    · rw [e];exact g
    · exact hI j (by omega)))
theorem zl5 {R:Type} {P:R→Prop} {i n:Nat} {c0 x y:Int} {bad ok:Option R} (hi:i<n) (hn:n≤60)
 (hbad:¬ (c0=0∧(0<i→x<y))→Wp bad P) (hok:c0=0→(0<i→x<y)→Wp ok P) :
 Wp (must ((((!(!decide (c0=0))) && (decide (0<(i:Int))))=true→(inI ((i:Int) - 1)))) <| must ((((!(!decide (c0=0))) && (decide (0<(i:Int))))=true→(0≤(((i:Int) - 1):Int)∧(((i:Int) - 1):Int)<((n:Nat):Int)))) <| must ((((!(!decide (c0=0))) && (decide (0<(i:Int))))=true→(0≤(i:Int)∧(i:Int)<((n:Nat):Int)))) <| (bif ((!decide (c0=0)) || ((decide (0<(i:Int))) && (decide (y≤x)))) then bad else must (inI ((i:Int)+1)) <| ok)) P:=by
 refine zas (fun _=>by unfold inI;omega) ?_
 refine zas (fun h=>by simp [-List.getD_eq_getElem?_getD] at h;omega) ?_
 refine zas (fun h=>by omega) ?_
 refine zbu (fun h=>hbad ?_) (fun h=>zas (by unfold inI;omega) ?_)
 · simp only [Bool.or_eq_true,Bool.not_eq_true',decide_eq_false_iff_not,Bool.and_eq_true,decide_eq_true_eq] at h
   rintro ⟨h1,h2⟩
   rcases h with h|h
   · exact h h1
   · have:=h2 (by omega);omega
 · simp only [Bool.or_eq_false_iff,Bool.not_eq_false',decide_eq_true_eq,Bool.and_eq_false_iff,decide_eq_false_iff_not] at h
   exact hok h.1 (fun h0=>by rcases h.2 with h2|h2 <;> omega)
theorem zmu {fuel:Nat} {w:Wear} (hn:w.Batches.length≤8) (hf:100<fuel) (id:Int):Wp (zbL fuel w id) (fun b=>b=true↔∃ j,j<w.Batches.length∧(w.Batches.getD j default).Id=id):=by
 unfold zbL
 refine zfZ (n:=w.Batches.length) (by omega) (fun i=>(w.Batches.getD i default).Id≠id) (fun i K hi _ hK=>?_) (fun h K=>?_)
 · refine zaY (by simp [-List.getD_eq_getElem?_getD];omega) (zas (by omega) ?_)
   simp only [Int.toNat_natCast]
   exact zch (fun h=>zap ⟨fun _=>⟨i,hi,h⟩,fun _=>rfl⟩) (fun h=>zas (by unfold inI;omega) (hK h))
 · refine zaR (by simp [-List.getD_eq_getElem?_getD]) (zap ⟨fun h=>(by cases h),fun ⟨j,hj,e⟩=>absurd e (h j hj)⟩)
theorem zlo {w:Wear} {fuel:Nat} (hfu:100<fuel):Wp (zbp fuel w) (fun r=>(WearOk w∧r=0)∨(¬ WearOk w∧r=64)):=by
 unfold zbp
 refine zbu (fun hb=>zap (.inr ⟨fun V=>?_,rfl⟩)) (fun hb=>?_)
 · have:=V.nb;have:=V.nm;have:=V.nu;have:=V.nl
   simp [-List.getD_eq_getElem?_getD] at hb;omega
 simp only [Bool.or_eq_false_iff,decide_eq_false_iff_not] at hb
 obtain ⟨⟨⟨n1,n2⟩,n3⟩,n4⟩:=hb
 refine zfZ (n:=w.Batches.length) (by omega) (fun i=>BatchOk (w.Batches.getD i default)∧(0<i→(w.Batches.getD (i - 1) default).Id<(w.Batches.getD i default).Id)) (fun i K hi _ hK=>?_) (fun a1 K=>zaR (by simp [-List.getD_eq_getElem?_getD]) ?_)
 · refine zaY (by simp [-List.getD_eq_getElem?_getD];omega) (zas (by omega) ?_)
   have e:(((i:Int) - 1)).toNat=i - 1:=by omega
   simp only [Int.toNat_natCast,e,zmh]
   refine zl5 hi (by omega) (fun h=>zap (.inr ⟨fun V=>h ?_,rfl⟩)) (fun h1 h2=>hK ⟨zfB.1 h1,h2⟩)
   exact ⟨zfB.2 (V.ba i hi).1,(V.ba i hi).2⟩
 refine zfZ (n:=w.Mantles.length) (by omega) (fun i=>(MantleOk (w.Mantles.getD i default)∧(0<i→(w.Mantles.getD (i - 1) default).Source<(w.Mantles.getD i default).Source))∧∃ j,j<w.Batches.length∧(w.Batches.getD j default).Id=(w.Mantles.getD i default).Batch) (fun i K hi _ hK=>?_) (fun a2 K=>zaR (by simp [-List.getD_eq_getElem?_getD]) ?_)
 · refine zaY (by simp [-List.getD_eq_getElem?_getD];omega) (zas (by omega) ?_)
   have e:(((i:Int) - 1)).toNat=i - 1:=by omega
   simp only [Int.toNat_natCast,e]
   refine zat (zlq _) ?_
   refine zas (fun h=>by omega) ?_
   refine zlg (fun _=>zmu (by omega) hfu _) (fun y16 h16=>?_)
   refine zas (fun _=>by unfold inI;omega) ?_
   refine zas (fun h=>by simp [-List.getD_eq_getElem?_getD] at h;omega) ?_
   refine zas (fun h=>by omega) ?_
   refine zbu (fun h=>zap (.inr ⟨fun V=>?_,rfl⟩)) (fun h=>zas (by unfold inI;omega) (hK ?_))
   · have h3:=zei.2 (V.ma i hi).1
     have h4:=(h16 (by simp [-List.getD_eq_getElem?_getD,h3])).2 (V.has i hi)
     simp only [h3,h4,decide_true,Bool.not_true,Bool.or_false,Bool.false_or,Bool.and_eq_true,decide_eq_true_eq] at h
     have:(w.Mantles.getD (i - 1) default).Source<(w.Mantles.getD i default).Source:=(V.ma i hi).2 (by omega)
     omega
   · simp only [Bool.or_eq_false_iff,Bool.not_eq_false',decide_eq_true_eq,Bool.and_eq_false_iff,decide_eq_false_iff_not] at h
     exact ⟨⟨zei.1 h.1.1,fun h0=>by rcases h.2 with h2|h2 <;> omega⟩,(h16 (by simp [-List.getD_eq_getElem?_getD,h.1.1])).1 h.1.2⟩
 refine zfZ (n:=w.Burns.length) (by omega) (fun i=>BurnOk (w.Burns.getD i default)∧(0<i→(w.Burns.getD (i - 1) default).Source<(w.Burns.getD i default).Source)) (fun i K hi _ hK=>?_) (fun a3 K=>zaR (by simp [-List.getD_eq_getElem?_getD]) ?_)
 · refine zaY (by simp [-List.getD_eq_getElem?_getD];omega) (zas (by omega) ?_)
   have e:(((i:Int) - 1)).toNat=i - 1:=by omega
   simp only [Int.toNat_natCast,e]
   refine zat (znI _) ?_
   refine zl5 hi (by omega) (fun h=>zap (.inr ⟨fun V=>h ?_,rfl⟩)) (fun h1 h2=>hK ⟨zfn.1 h1,h2⟩)
   exact ⟨zfn.2 (V.bu i hi).1,(V.bu i hi).2⟩
 refine zfZ (n:=w.Looks.length) (by omega) (fun i=>zjO (w.Looks.getD i default)∧(0<i→(w.Looks.getD (i - 1) default).Source<(w.Looks.getD i default).Source)) (fun i K hi _ hK=>?_) (fun a4 K=>zaR (by simp [-List.getD_eq_getElem?_getD]) ?_)
 · refine zaY (by simp [-List.getD_eq_getElem?_getD];omega) (zas (by omega) ?_)
   have e:(((i:Int) - 1)).toNat=i - 1:=by omega
   simp only [Int.toNat_natCast,e]
   refine zat (znH _) ?_
   refine zl5 hi (by omega) (fun h=>zap (.inr ⟨fun V=>h ?_,rfl⟩)) (fun h1 h2=>hK ⟨zfm.1 h1,h2⟩)
   exact ⟨zfm.2 (V.lo i hi).1,(V.lo i hi).2⟩
 exact zap (.inl ⟨⟨by omega,by omega,by omega,by omega,a1,fun i hi=>(a2 i hi).1,a3,a4,fun i hi=>(a2 i hi).2⟩,rfl⟩)
theorem zlp {w:Wear} {fuel:Nat} (hfu:100<fuel) (h:WearOk w):zbp fuel w=some 0:=by
 obtain ⟨r,e,h1|h1⟩:=zlo (w:=w) hfu
 · rw [e,h1.2]
 · exact absurd h h1.1
theorem znG {w:Wear} {fuel:Nat} (hfu:100<fuel) (h:¬ WearOk w):zbp fuel w=some 64:=by
 obtain ⟨r,e,h1|h1⟩:=zlo (w:=w) hfu
 · exact absurd h1.1 h
 · rw [e,h1.2]
end Go.Sp
end
/- Plain laws, mantle: the chapter's examples. -/
section
set_option linter.all false
namespace Go.Sp
open Go.Av
theorem zoa:zdQ 20000=some true:=by kernel_rfl
end Go.Sp
end
/- Plain laws, mantle: one look more, by both; MantleChecks. No program in sight. -/
section
set_option linter.all false
namespace Go.Sp
open Go.Av
set_option maxRecDepth 100000
theorem cmpI (a b:Int):za0 a b=if a<b then -1 else if b<a then 1 else 0:=by
 unfold za0 cmp_isNaN_int
 by_cases h1:a<b
 · simp [-List.getD_eq_getElem?_getD,h1]
 · by_cases h2:b<a <;> simp [-List.getD_eq_getElem?_getD,h1,h2]
theorem znx {a b:Int}:za0 a b<0↔a<b:=by rw [cmpI];split <;> (try split) <;> omega
theorem zpd {a b:Int}:za0 a b=0↔a=b:=by rw [cmpI];split <;> (try split) <;> omega
structure InsAt (l:List Look) (x:Look) (k:Nat):Prop where
 le:k≤l.length
 lo:∀ i,i<k→(l.getD i default).Source<x.Source
 hi:∀ i,k≤i→i<l.length→¬ (l.getD i default).Source<x.Source
def zo8:Wear:=⟨[],[],[],[]⟩
end Go.Sp
end
/- Plain laws: slices.SortStableFunc on ints ends, and what it leaves is a rearrangement. No program in sight. -/
section
set_option linter.all false
namespace Go.Sp
open Go.Av
set_option maxRecDepth 100000
theorem swap_perm {l s:List Int} (h:s.Perm l) {i j:Int} (hi:0≤i∧i<(s.length:Int)) (hj:0≤j∧j<(s.length:Int)) :
 ((s.set i.toNat (s.getD j.toNat default)).set j.toNat (s.getD i.toNat default)).Perm l:=by
 have h1:i.toNat<s.length:=by omega
 have h2:j.toNat<s.length:=by omega
 rw [List.getD_eq_getElem?_getD,List.getElem?_eq_getElem h2,List.getD_eq_getElem?_getD,List.getElem?_eq_getElem h1]
 exact (List.set_set_perm h1 h2).trans h
theorem half {x:Int} (h:0≤x):Int.fdiv x (2 ^ (1:Int).toNat)=x / 2:=by
 rw [show (1:Int).toNat=1 from rfl,Int.fdiv_eq_ediv_of_nonneg _ (by decide)];rfl
theorem zjm {l s:List Int} (h:s.Perm l) {i:Nat} (hi:i<s.length):s.getD i default∈l:=h.mem_iff.1 (zcz hi)
def Cmp (l:List Int) (c:Int→Int→Option Int):Prop:=∀ a∈l,∀ b∈l,∃ r,c a b=some r
theorem Cmp.perm {l s:List Int} {c:Int→Int→Option Int} (H:Cmp l c) (h:s.Perm l):Cmp s c:=fun a ha b hb=>H a (h.mem_iff.1 ha) b (h.mem_iff.1 hb)
theorem ziz {fuel:Nat} (hf:1000≤fuel) {l:List Int} (hl:l.length≤100) {c:Int→Int→Option Int} (H:Cmp l c) {a b:Int} (ha:0≤a∧a≤1000) (hb:b≤(l.length:Int)) :
 Wp (zaO fuel l a b c) (fun r=>r.Perm l):=by
 unfold zaO
 refine zaq (by omega) ?_
 refine wp_loop (fun s=>a<s.1∧s.2.Perm l) (fun s=>(b - s.1).toNat) (by simp only;omega) ⟨by simp only;omega,.refl _⟩ (fun s K hI hK=>?_)
 obtain ⟨i,s⟩:=s
 obtain ⟨h1,h2⟩:=hI
 simp only at h1 h2 hK ⊢
 refine zch (fun hlt=>?_) (fun _=>zap h2)
 refine wp_loop (fun t=>a≤t.1∧t.1≤i∧t.2.Perm l) (fun t=>(t.1 - a).toNat) (by simp only;omega) ⟨by simp only;omega,by simp only;omega,h2⟩ (fun t K2 hI2 hK2=>?_)
 obtain ⟨j,t⟩:=t
 obtain ⟨g1,g2,g3⟩:=hI2
 simp only at g1 g2 g3 hK2 ⊢
 have hlen:=g3.length_eq
 refine zas (fun h=>by have:=of_decide_eq_true h;omega) (zas (fun h=>by unfold inI;omega) (zas (fun h=>by have:=of_decide_eq_true h;omega) ?_))
 refine zlg (Q:=fun _=>True) (fun h=>?_) (fun y _=>?_)
 · have:=of_decide_eq_true h
   obtain ⟨r,e⟩:=H _ (zjm g3 (i:=j.toNat) (by omega)) _ (zjm g3 (i:=(j - 1).toNat) (by omega))
   exact ⟨r,e,trivial⟩
 refine zbu (fun h=>?_) (fun h=>zaq (by omega) (hK _ ⟨by simp only;omega,g3⟩ (by simp only;omega)))
 simp only [Bool.and_eq_true,decide_eq_true_eq] at h
 refine zaq (by omega) (zaq (by omega) (zas (by omega) (zas (by omega) (zas (by omega) (zas (by rw [List.length_set];omega) (zaq (by omega) ?_))))))
 exact hK2 _ ⟨by simp only;omega,by simp only;omega,swap_perm g3 (by omega) (by omega)⟩ (by simp only;omega)
theorem zf2 {fuel:Nat} (hf:1000≤fuel) {l:List Int} (hl:l.length≤100) {c:Int→Int→Option Int} {a b n:Int} (ha:0≤a) (hb:0≤b) (han:a+n≤(l.length:Int)) (hbn:b+n≤(l.length:Int)) :
 Wp (zaP fuel l a b n c) (fun r=>r.Perm l):=by
 unfold zaP
 refine wp_loop (fun s=>0≤s.1∧s.2.Perm l) (fun s=>(n - s.1).toNat) (by simp only;omega) ⟨by simp [-List.getD_eq_getElem?_getD],.refl _⟩ (fun s K hI hK=>?_)
 obtain ⟨i,s⟩:=s
 obtain ⟨h1,h2⟩:=hI
 simp only at h1 h2 hK ⊢
 have hlen:=h2.length_eq
 refine zch (fun hlt=>?_) (fun _=>zap h2)
 refine zaq (by omega) (zaq (by omega) (zaq (by omega) (zas (by omega) (zaq (by omega) (zas (by omega) (zas (by omega) (zas (by rw [List.length_set];omega) (zaq (by omega) ?_))))))))
 exact hK _ ⟨by simp only;omega,swap_perm h2 (by omega) (by omega)⟩ (by simp only;omega)
theorem zog {fuel:Nat} (hf:1000≤fuel) {l:List Int} (hl:l.length≤100) {c:Int→Int→Option Int} {a m b:Int} (ha:0≤a) (ham:a<m) (hmb:m<b) (hb:b≤(l.length:Int)) :
 Wp (zbf fuel l a m b c) (fun r=>r.Perm l):=by
 unfold zbf
 refine zaq (by omega) (zaq (by omega) ?_)
 refine wp_loop (fun s=>1≤s.1∧s.1≤m - a∧1≤s.2.1∧s.2.1≤b - m∧s.2.2.Perm l) (fun s=>(s.1+s.2.1).toNat) (by simp only;omega) ⟨by simp only;omega,by simp only;omega,by simp only;omega,by simp only;omega,.refl _⟩ (fun s K hI hK=>?_)
 obtain ⟨i,j,s⟩:=s
 obtain ⟨h1,h2,h3,h4,h5⟩:=hI
 simp only at h1 h2 h3 h4 h5 hK ⊢
 have hlen:=h5.length_eq
 refine zir (fun hne=>?_) (fun he=>?_)
 · refine zch (fun hlt=>?_) (fun hge=>?_)
   · refine zaq (by omega) (wp_bind (zf2 hf (by omega) (by omega) (by omega) (by omega) (by omega)) (fun y hy=>zas hy.length_eq (zaq (by omega) (hK _ ⟨by simp only;omega,by simp only;omega,by simp only;omega,by simp only;omega,hy.trans h5⟩ (by simp only;omega)))))
   · refine zaq (by omega) (zaq (by omega) (zaq (by omega) (wp_bind (zf2 hf (by omega) (by omega) (by omega) (by omega) (by omega)) (fun y hy=>zas hy.length_eq (zaq (by omega) (hK _ ⟨by simp only;omega,by simp only;omega,by simp only;omega,by simp only;omega,hy.trans h5⟩ (by simp only;omega)))))))
 · exact zaq (by omega) (wp_bind (zf2 hf (by omega) (by omega) (by omega) (by omega) (by omega)) (fun y hy=>zap (hy.trans h5)))
theorem zfv {fuel:Nat} (hf:1000≤fuel) {c:Int→Int→Option Int}:∀ (n:Nat) {l:List Int},l.length≤100→Cmp l c→∀ {a m b:Int},0≤a→a<m→m<b→b≤(l.length:Int)→(b - a).toNat<n →
 Wp (zaS fuel n l a m b c) (fun r=>r.Perm l)
 | 0,l,_,_,a,m,b,_,_,_,_,hn=>absurd hn (Nat.not_lt_zero _)
 | n+1,l,hl,H,a,m,b,ha,ham,hmb,hb,hn=>by
  show Wp (za6 fuel (zaS fuel n) l a m b c) _
  unfold za6
  have hc:∀ i j:Int,0≤i→i<(l.length:Int)→0≤j→j<(l.length:Int)→Wp (c (l.getD i.toNat default) (l.getD j.toNat default)) (fun _=>True):=fun i j h1 h2 h3 h4=>by
   obtain ⟨r,e⟩:=H _ (zcz (l:=l) (i:=i.toNat) (by omega)) _ (zcz (l:=l) (i:=j.toNat) (by omega))
   exact ⟨r,e,trivial⟩
  refine zaq (by omega) ?_
  refine zch (fun e1=>?_) (fun e1=>?_)
  · refine wp_loop (fun s=>m≤s.1∧s.1≤s.2∧s.2≤b) (fun s=>(s.2 - s.1).toNat) (by simp only;omega) ⟨by simp only;omega,by simp only;omega,by simp [-List.getD_eq_getElem?_getD]⟩ (fun s K hI hK=>?_)
    obtain ⟨i,j⟩:=s
    obtain ⟨h1,h2,h3⟩:=hI
    simp only at h1 h2 h3 hK ⊢
    refine zch (fun hlt=>?_) (fun hge=>?_)
    · rw [half (by omega)]
      refine zaq (by omega) (zas (by unfold inU;omega) (zaq (by omega) (zas (by omega) (zas (by omega) (wp_bind (hc _ _ (by omega) (by omega) (by omega) (by omega)) (fun y _=>?_))))))
      refine zch (fun _=>zaq (by omega) (hK _ ⟨by simp only;omega,by simp only;omega,by simp only;omega⟩ (by simp only;omega))) (fun _=>hK _ ⟨by simp only;omega,by simp only;omega,by simp only;omega⟩ (by simp only;omega))
    · refine wp_loop (fun s=>0≤s.1∧s.2.Perm l) (fun s=>(b - s.1).toNat) (by simp only;omega) ⟨by simp only;omega,.refl _⟩ (fun s K2 hI2 hK2=>?_)
      obtain ⟨k,s⟩:=s
      obtain ⟨g1,g2⟩:=hI2
      simp only at g1 g2 hK2 ⊢
      have hlen:=g2.length_eq
      refine zaq (by omega) (zch (fun hk=>?_) (fun _=>zap g2))
      refine zaq (by omega) (zaq (by omega) (zas (by omega) (zas (by omega) (zas (by omega) (zas (by rw [List.length_set];omega) (zaq (by omega) ?_))))))
      exact hK2 _ ⟨by simp only;omega,swap_perm g2 (by omega) (by omega)⟩ (by simp only;omega)
  refine zaq (by omega) ?_
  refine zch (fun e2=>?_) (fun e2=>?_)
  · refine wp_loop (fun s=>a≤s.1∧s.1≤s.2∧s.2≤m) (fun s=>(s.2 - s.1).toNat) (by simp only;omega) ⟨by simp [-List.getD_eq_getElem?_getD],by simp only;omega,by simp [-List.getD_eq_getElem?_getD]⟩ (fun s K hI hK=>?_)
    obtain ⟨i,j⟩:=s
    obtain ⟨h1,h2,h3⟩:=hI
    simp only at h1 h2 h3 hK ⊢
    refine zch (fun hlt=>?_) (fun hge=>?_)
    · rw [half (by omega)]
      refine zaq (by omega) (zas (by unfold inU;omega) (zaq (by omega) (zas (by omega) (zas (by omega) (wp_bind (hc _ _ (by omega) (by omega) (by omega) (by omega)) (fun y _=>?_))))))
      refine zir (fun _=>zaq (by omega) (hK _ ⟨by simp only;omega,by simp only;omega,by simp only;omega⟩ (by simp only;omega))) (fun _=>hK _ ⟨by simp only;omega,by simp only;omega,by simp only;omega⟩ (by simp only;omega))
    · refine wp_loop (fun s=>s.1≤m∧s.2.Perm l) (fun s=>(s.1 - i).toNat) (by simp only;omega) ⟨by simp [-List.getD_eq_getElem?_getD],.refl _⟩ (fun s K2 hI2 hK2=>?_)
      obtain ⟨k,s⟩:=s
      obtain ⟨g1,g2⟩:=hI2
      simp only at g1 g2 hK2 ⊢
      have hlen:=g2.length_eq
      refine zch (fun hk=>?_) (fun _=>zap g2)
      refine zaq (by omega) (zaq (by omega) (zas (by omega) (zas (by omega) (zas (by omega) (zas (by rw [List.length_set];omega) (zaq (by omega) ?_))))))
      exact hK2 _ ⟨by simp only;omega,swap_perm g2 (by omega) (by omega)⟩ (by simp only;omega)
  rw [half (by omega)]
  refine zaq (by omega) (zas (by unfold inU;omega) (zaq (by omega) (zaq (by omega) ?_)))
  have hmid:a<(a+b) / 2∧(a+b) / 2<b:=by omega
  generalize hmd:(a+b) / 2=mid at hmid ⊢
  have hm2:2 * mid≤a+b∧a+b≤2 * mid+1:=by omega
  refine ze5 (fun s=>a≤s.1∧mid+m - b≤s.1∧s.1≤s.2∧(s.2=mid∧mid<m∨s.2=m∧m≤mid)) (fun K hK=>?_) (fun s hs=>?_)
  · refine zch (fun h=>zaq (by omega) (hK _ ⟨by simp only;omega,by simp only;omega,by simp only;omega,.inl ⟨rfl,h⟩⟩)) (fun h=>hK _ ⟨by simp [-List.getD_eq_getElem?_getD],by simp only;omega,by simp only;omega,.inr ⟨rfl,by omega⟩⟩)
  obtain ⟨st,r⟩:=s
  obtain ⟨s1,s2,s3,s4⟩:=hs
  simp only at s1 s2 s3 s4 ⊢
  refine zaq (by omega) ?_
  refine wp_loop (fun s=>st≤s.1∧s.1≤s.2∧s.2≤r) (fun s=>(s.2 - s.1).toNat) (by simp only;omega) ⟨by simp [-List.getD_eq_getElem?_getD],s3,by simp [-List.getD_eq_getElem?_getD]⟩ (fun s K hI hK=>?_)
  obtain ⟨i,j⟩:=s
  obtain ⟨h1,h2,h3⟩:=hI
  simp only at h1 h2 h3 hK ⊢
  refine zch (fun hlt=>?_) (fun hge=>?_)
  · rw [half (by omega)]
    refine zaq (by omega) (zas (by unfold inU;omega) (zaq (by omega) (zaq (by omega) (zas (by omega) (zas (by omega) (wp_bind (hc _ _ (by omega) (by omega) (by omega) (by omega)) (fun y _=>?_)))))))
    refine zir (fun _=>zaq (by omega) (hK _ ⟨by simp only;omega,by simp only;omega,by simp only;omega⟩ (by simp only;omega))) (fun _=>hK _ ⟨by simp only;omega,by simp only;omega,by simp only;omega⟩ (by simp only;omega))
  refine zaq (by omega) ?_
  refine ze5 (fun s=>s.Perm l) (fun K hK=>?_) (fun s hs=>?_)
  · refine zbu (fun h=>?_) (fun h=>hK _ (.refl _))
    simp only [Bool.and_eq_true,decide_eq_true_eq] at h
    exact wp_bind (zog hf hl (by omega) (by omega) (by omega) (by omega)) (fun y hy=>zas hy.length_eq (hK _ hy))
  have hsl:=hs.length_eq
  refine ze5 (fun s=>s.Perm l) (fun K hK=>?_) (fun t ht=>?_)
  · refine zbu (fun h=>?_) (fun h=>hK _ hs)
    simp only [Bool.and_eq_true,decide_eq_true_eq] at h
    exact wp_bind (zfv hf n (by omega) (H.perm hs) (by omega) (by omega) (by omega) (by omega) (by omega)) (fun y hy=>zas hy.length_eq (hK _ (hy.trans hs)))
  have htl:=ht.length_eq
  refine zbu (fun h=>?_) (fun h=>zap ht)
  simp only [Bool.and_eq_true,decide_eq_true_eq] at h
  exact wp_bind (zfv hf n (by omega) (H.perm ht) (by omega) (by omega) (by omega) (by omega) (by omega)) (fun y hy=>zap (hy.trans ht))
theorem zkv {fuel:Nat} (hf:1000≤fuel) {l:List Int} (hl:l.length≤100) {c:Int→Int→Option Int} (H:Cmp l c):Wp (zaH fuel l c) (fun r=>r.Perm l):=by
 unfold zaH
 refine wp_bind (Q:=fun r=>r.Perm l) ?_ (fun y hy=>zap hy)
 unfold zbI
 refine wp_loop (fun s=>0≤s.1∧s.1+20=s.2.1∧s.1≤(l.length:Int)∧s.2.2.Perm l) (fun s=>(200 - s.1).toNat) (by simp only;omega) ⟨by simp [-List.getD_eq_getElem?_getD],by simp [-List.getD_eq_getElem?_getD],by simp only;omega,.refl _⟩ (fun s K hI hK=>?_)
 obtain ⟨i,j,s⟩:=s
 obtain ⟨h1,h2,h3,h4⟩:=hI
 simp only at h1 h2 h3 h4 hK ⊢
 have hlen:=h4.length_eq
 refine zch (fun hlt=>?_) (fun hge=>?_)
 · exact wp_bind (ziz hf (by omega) (H.perm h4) (by omega) (by omega)) (fun y hy=>zas hy.length_eq (zaq (by omega) (hK _ ⟨by simp only;omega,by simp only,by simp only;omega,hy.trans h4⟩ (by simp only;omega))))
 refine wp_bind (ziz hf (by omega) (H.perm h4) (by omega) (by omega)) (fun y hy=>zas hy.length_eq ?_)
 have hy':=hy.trans h4
 refine wp_loop (fun s=>20≤s.1∧s.1≤200∧s.2.Perm l) (fun s=>(200 - s.1).toNat) (by simp only;omega) ⟨by simp [-List.getD_eq_getElem?_getD],by simp [-List.getD_eq_getElem?_getD],hy'⟩ (fun t K2 hI2 hK2=>?_)
 obtain ⟨bs,t⟩:=t
 obtain ⟨g1,g2,g3⟩:=hI2
 simp only at g1 g2 g3 hK2 ⊢
 refine zch (fun hbs=>?_) (fun _=>zap g3)
 refine zaq (by omega) ?_
 refine wp_loop (fun s=>0≤s.1∧s.1+2 * bs=s.2.1∧s.1≤(l.length:Int)∧s.2.2.Perm l) (fun s=>(1000 - s.1).toNat - 100) (by simp only;omega) ⟨by simp [-List.getD_eq_getElem?_getD],by simp [-List.getD_eq_getElem?_getD],by simp only;omega,g3⟩ (fun u K3 hI3 hK3=>?_)
 obtain ⟨x,z,u⟩:=u
 obtain ⟨u1,u2,u3,u4⟩:=hI3
 simp only at u1 u2 u3 u4 hK3 ⊢
 have hul:=u4.length_eq
 refine zch (fun hz=>?_) (fun hz=>?_)
 · exact zaq (by omega) (wp_bind (zfv hf fuel (by omega) (H.perm u4) (by omega) (by omega) (by omega) (by omega) (by omega)) (fun y hy=>zas hy.length_eq (zaq (by omega) (zaq (by omega) (hK3 _ ⟨by simp only;omega,by simp only,by simp only;omega,hy.trans u4⟩ (by simp only;omega))))))
 refine zaq (by omega) ?_
 refine ze5 (fun s=>s.Perm l) (fun K4 hK4=>?_) (fun v hv=>zaq (by omega) (hK2 _ ⟨by simp only;omega,by simp only;omega,hv⟩ (by simp only;omega)))
 refine zch (fun hx=>?_) (fun hx=>hK4 _ u4)
 exact wp_bind (zfv hf fuel (by omega) (H.perm u4) (by omega) (by omega) (by omega) (by omega) (by omega)) (fun y hy=>zas hy.length_eq (hK4 _ (hy.trans u4)))
end Go.Sp
end
/- Plain laws, mantle: which mantle a lamp has, by both; which burns tell; ages as sums. No program in sight. -/
section
set_option linter.all false
namespace Go.Sp
open Go.Av
set_option maxRecDepth 100000
def mt (w:Wear) (i:Nat):Mantle:=w.Mantles.getD i default
def bn (w:Wear) (i:Nat):Burn:=w.Burns.getD i default
def Cand (w:Wear) (lamp night known:Int) (j:Nat):Prop:=(mt w j).Lamp=lamp∧(mt w j).Night≤night∧zau (mt w j).Known (mt w j).Until known=true
instance (w:Wear) (lamp night known:Int) (j:Nat):Decidable (Cand w lamp night known j):=inferInstanceAs (Decidable (_∧_∧_))
def fitN (w:Wear) (lamp night known:Int):Nat→Int
 | 0=>-1
 | n+1=>if Cand w lamp night known n∧(fitN w lamp night known n<0∨(mt w (fitN w lamp night known n).toNat).Night≤(mt w n).Night) then (n:Int) else fitN w lamp night known n
def fit (w:Wear) (lamp night known:Int):Int:=fitN w lamp night known w.Mantles.length
structure FitIs (w:Wear) (lamp night known:Int) (n:Nat) (i:Nat):Prop where
 lt:i<n
 cand:Cand w lamp night known i
 top:∀ j,j<n→Cand w lamp night known j→(mt w j).Night≤(mt w i).Night∧(i<j→(mt w j).Night<(mt w i).Night)
theorem zjw (w:Wear) (lamp night known:Int):∀ n,(fitN w lamp night known n = -1∧∀ j,j<n→¬ Cand w lamp night known j)∨∃ i:Nat,fitN w lamp night known n=(i:Int)∧FitIs w lamp night known n i
 | 0=>.inl ⟨rfl,fun j hj=>absurd hj (Nat.not_lt_zero _)⟩
 | n+1=>by
  unfold fitN
  rcases zjw w lamp night known n with ⟨e,h⟩|⟨i,e,h⟩
  · rw [e]
    by_cases hc:Cand w lamp night known n
    · rw [if_pos ⟨hc,.inl (by omega)⟩]
      refine .inr ⟨n,rfl,by omega,hc,fun j hj hcj=>?_⟩
      by_cases e:j=n
      · subst e;exact ⟨Int.le_refl _,fun h=>absurd h (Nat.lt_irrefl _)⟩
      · exact absurd hcj (h j (by omega))
    · rw [if_neg (fun h=>hc h.1)]
      refine .inl ⟨rfl,fun j hj=>?_⟩
      by_cases e:j=n
      · rw [e];exact hc
      · exact h j (by omega)
  · rw [e,Int.toNat_natCast]
    by_cases hc:Cand w lamp night known n∧((i:Int)<0∨(mt w i).Night≤(mt w n).Night)
    · rw [if_pos hc]
      have h2:(mt w i).Night≤(mt w n).Night:=hc.2.resolve_left (by omega)
      refine .inr ⟨n,rfl,by omega,hc.1,fun j hj hcj=>?_⟩
      by_cases e:j=n
      · subst e;exact ⟨Int.le_refl _,fun h=>absurd h (Nat.lt_irrefl _)⟩
      · have:=(h.top j (by omega) hcj).1
        exact ⟨by omega,fun h=>by omega⟩
    · rw [if_neg hc]
      refine .inr ⟨i,rfl,by have:=h.lt;omega,h.cand,fun j hj hcj=>?_⟩
      by_cases e:j=n
      · subst e
        have:¬ (mt w i).Night≤(mt w j).Night:=fun h=>hc ⟨hcj,.inr h⟩
        exact ⟨by omega,fun _=>by omega⟩
      · exact h.top j (by omega) hcj
theorem zkT (w:Wear) (lamp night known:Int):(fit w lamp night known = -1∧∀ j,j<w.Mantles.length→¬ Cand w lamp night known j)∨∃ i:Nat,fit w lamp night known=(i:Int)∧FitIs w lamp night known w.Mantles.length i:=zjw w lamp night known _
theorem FitIs.eq {w:Wear} {lamp night known:Int} {i j:Nat} (h1:FitIs w lamp night known w.Mantles.length i) (h2:FitIs w lamp night known w.Mantles.length j):i=j:=by
 have a:=h1.top j h2.lt h2.cand
 have b:=h2.top i h1.lt h1.cand
 rcases Nat.lt_trichotomy i j with h|h|h
 · have:=a.2 h;omega
 · exact h
 · have:=b.2 h;omega
theorem FitIs.fit {w:Wear} {lamp night known:Int} {i:Nat} (h:FitIs w lamp night known w.Mantles.length i):fit w lamp night known=(i:Int):=by
 rcases zkT w lamp night known with ⟨e,h2⟩|⟨j,e,h2⟩
 · exact absurd h.cand (h2 i h.lt)
 · rw [e,h2.eq h]
theorem zqh {w:Wear} {lamp night known:Int} {i:Nat} (h:Go.Sp.fit w lamp night known=(i:Int)):FitIs w lamp night known w.Mantles.length i:=by
 rcases zkT w lamp night known with ⟨e,h2⟩|⟨j,e,h2⟩
 · omega
 · have:i=j:=by omega
   subst this;exact h2
theorem zqg (w:Wear) (lamp night known:Int) : -1≤fit w lamp night known∧fit w lamp night known<(w.Mantles.length:Int):=by
 rcases zkT w lamp night known with ⟨e,_⟩|⟨j,e,h⟩
 · omega
 · have:=h.lt;omega
theorem FitIs.earlier {w:Wear} {lamp night known night':Int} {i:Nat} (h:FitIs w lamp night known w.Mantles.length i) (h1:(mt w i).Night≤night') (h2:night'≤night):FitIs w lamp night' known w.Mantles.length i:=
 ⟨h.lt,⟨h.cand.1,h1,h.cand.2.2⟩,fun j hj hc=>h.top j hj ⟨hc.1,by have:=hc.2.1;omega,hc.2.2⟩⟩
theorem zjv (w:Wear) (lamp night known:Int):zb5 w lamp night known=some (fit w lamp night known):=by
 unfold zb5
 refine Wp.eq (zd9 (fun i s=>s=fitN w lamp night known i) rfl (fun i s K hi hI hK=>?_) (fun s hs=>zap hs))
 have hs:=zjw w lamp night known i
 rw [← hI] at hs
 refine zas (fun h=>?_) ?_
 · simp only [Bool.and_eq_true,Bool.not_eq_true',decide_eq_false_iff_not] at h
   rcases hs with ⟨e,_⟩|⟨j,e,hj⟩
   · omega
   · have:=hj.lt;omega
 have e:((((decide ((w.Mantles.getD i default).Lamp=lamp)) && (decide ((w.Mantles.getD i default).Night≤night))) && (zau ((w.Mantles.getD i default).Known) ((w.Mantles.getD i default).Until) known)) && ((decide (s<0)) || (decide ((w.Mantles.getD (s).toNat default).Night≤(w.Mantles.getD i default).Night))))=decide (Cand w lamp night known i∧(s<0∨(mt w s.toNat).Night≤(mt w i).Night)):=by
  rw [Bool.eq_iff_iff]
  simp only [Bool.and_eq_true,Bool.or_eq_true,decide_eq_true_eq,Cand,mt,and_assoc]
 rw [e]
 refine zch (fun h=>hK _ ?_) (fun h=>hK _ ?_)
 · subst hI;unfold fitN;rw [if_pos h]
 · subst hI;conv=>rhs;unfold fitN
   rw [if_neg h]
def zqk:Mantle:=⟨0,0,0,0,0,0⟩
def atR (w:Wear) (lamp night known:Int):Mantle×Bool:=if fit w lamp night known<0 then (zqk,false) else (mt w (fit w lamp night known).toNat,true)
theorem rcounts (a b c:Int):zay a b c=zau a b c:=rfl
theorem at_eq {w:Wear} {fuel:Nat} (hf:w.Mantles.length<fuel) (hn:w.Mantles.length≤60) (lamp night known:Int):zbZ fuel w lamp night known=some (atR w lamp night known):=by
 unfold zbZ
 refine Wp.eq ?_
 refine wp_loop (fun s=>∃ i:Nat,s.2.1=(i:Int)∧i≤w.Mantles.length∧s.1 = !decide (fitN w lamp night known i<0)∧s.2.2=if fitN w lamp night known i<0 then zqk else mt w (fitN w lamp night known i).toNat) (fun s=>w.Mantles.length - s.2.1.toNat) (by simp [-List.getD_eq_getElem?_getD];omega) ⟨0,rfl,Nat.zero_le _,rfl,rfl⟩ (fun s K hI hK=>?_)
 obtain ⟨b,x,m⟩:=s
 obtain ⟨i,h1,h2,h3,h4⟩:=hI
 simp only at h1 h2 h3 h4 hK ⊢
 subst h1
 by_cases hin:i<w.Mantles.length
 · refine zaY (by simp [-List.getD_eq_getElem?_getD];omega) (zas (by omega) ?_)
   simp only [Int.toNat_natCast] at hK ⊢
   have e:((((decide ((w.Mantles.getD i default).Lamp=lamp)) && (decide ((w.Mantles.getD i default).Night≤night))) && (zay ((w.Mantles.getD i default).Known) ((w.Mantles.getD i default).Until) known)) && ((!b) || (decide (m.Night≤(w.Mantles.getD i default).Night))))=decide (Cand w lamp night known i∧(fitN w lamp night known i<0∨(mt w (fitN w lamp night known i).toNat).Night≤(mt w i).Night)):=by
    rw [Bool.eq_iff_iff,h3,h4]
    by_cases hc:fitN w lamp night known i<0
    · simp only [hc,Bool.and_eq_true,Bool.or_eq_true,decide_eq_true_eq,Cand,mt,and_assoc,rcounts];simp [-List.getD_eq_getElem?_getD]
    · simp only [hc,Bool.and_eq_true,Bool.or_eq_true,decide_eq_true_eq,Cand,mt,and_assoc,rcounts];simp [-List.getD_eq_getElem?_getD]
   rw [e]
   refine zch (fun h=>zaq (by omega) (hK _ ⟨i+1,by simp [-List.getD_eq_getElem?_getD],by omega,?_,?_⟩ (by simp only;omega))) (fun h=>zaq (by omega) (hK _ ⟨i+1,by simp [-List.getD_eq_getElem?_getD],by omega,?_,?_⟩ (by simp only;omega)))
   · simp only;unfold fitN;rw [if_pos h];simp [-List.getD_eq_getElem?_getD]
   · simp only;unfold fitN;rw [if_pos h,if_neg (by omega)];simp [-List.getD_eq_getElem?_getD,mt]
   · simp only;unfold fitN;rw [if_neg h];exact h3
   · simp only;unfold fitN;rw [if_neg h];exact h4
 · have:i=w.Mantles.length:=by omega
   subst this
   refine zaR (by simp [-List.getD_eq_getElem?_getD]) (zap ?_)
   unfold atR fit
   rw [h3,h4]
   by_cases hc:fitN w lamp night known w.Mantles.length<0
   · simp [-List.getD_eq_getElem?_getD,hc]
   · simp [-List.getD_eq_getElem?_getD,hc]
def tell (w:Wear) (known:Int) (i:Nat):Bool:=decide (0≤fit w (bn w i).Lamp (bn w i).Night known) && zau (bn w i).Known (bn w i).Until known &&
 decide (∀ k,k<w.Burns.length→i<k→¬ ((bn w k).Lamp=(bn w i).Lamp∧(bn w k).Night=(bn w i).Night∧zau (bn w k).Known (bn w k).Until known=true))
def zb1 (P:Nat→Bool) (f:Nat→Int):Nat→Int
 | 0=>0
 | n+1=>zb1 P f n+(if P n=true then f n else 0)
theorem zf3 {P Q:Nat→Bool} {f:Nat→Int}:∀ {n:Nat},(∀ i,i<n→P i=Q i)→zb1 P f n=zb1 Q f n
 | 0,_=>rfl
 | n+1,h=>by unfold zb1;rw [zf3 (fun i hi=>h i (by omega)),h n (by omega)]
theorem zi8 {P Q:Nat→Bool} {f:Nat→Int}:∀ {n:Nat},(∀ i,i<n→0≤f i)→(∀ i,i<n→P i=true→Q i=true)→zb1 P f n≤zb1 Q f n
 | 0,_,_=>Int.le_refl _
 | n+1,h0,h=>by
  unfold zb1
  have h1:=zi8 (fun i hi=>h0 i (by omega)) (fun i hi=>h i (by omega)) (P:=P) (Q:=Q) (f:=f) (n:=n)
  have h2:=h0 n (by omega)
  by_cases hp:P n=true
  · rw [if_pos hp,if_pos (h n (by omega) hp)];omega
  · rw [if_neg hp];split <;> omega
theorem zf4 {P:Nat→Bool} {f:Nat→Int} {c:Int} (hc:0≤c):∀ {n:Nat},(∀ i,i<n→0≤f i∧f i≤c)→0≤zb1 P f n∧zb1 P f n≤(n:Int) * c
 | 0,_=>by simp [-List.getD_eq_getElem?_getD,zb1]
 | n+1,h=>by
  unfold zb1
  have h1:=zf4 hc (fun i hi=>h i (by omega)) (P:=P) (f:=f) (n:=n)
  have h2:=h n (by omega)
  have:((n+1:Nat):Int) * c=(n:Int) * c+c:=by rw [Int.natCast_add,Int.add_mul];simp [-List.getD_eq_getElem?_getD]
  rw [this]
  split <;> omega
theorem zj5 {P Q R:Nat→Bool} {f:Nat→Int}:∀ {n:Nat},(∀ i,i<n→R i=(P i || Q i))→(∀ i,i<n→¬ (P i=true∧Q i=true))→zb1 R f n=zb1 P f n+zb1 Q f n
 | 0,_,_=>rfl
 | n+1,h1,h2=>by
  unfold zb1
  rw [zj5 (fun i hi=>h1 i (by omega)) (fun i hi=>h2 i (by omega)),h1 n (by omega)]
  have:=h2 n (by omega)
  cases hp:P n <;> cases hq:Q n <;> simp_all [-List.getD_eq_getElem?_getD] <;> omega
def zkL (w:Wear) (known m from_ to:Int) (i:Nat):Bool:=tell w known i && decide (fit w (bn w i).Lamp (bn w i).Night known=m) && (decide (from_<(bn w i).Night) && decide ((bn w i).Night≤to))
def zhY (w:Wear) (known m from_ to:Int):Int:=zb1 (zkL w known m from_ to) (fun i=>(bn w i).Minutes.Lo) w.Burns.length
def zd7 (w:Wear) (known m from_ to:Int):Int:=zb1 (zkL w known m from_ to) (fun i=>(bn w i).Minutes.Hi) w.Burns.length
end Go.Sp
end
/- Plain laws, mantle: which burns tell, ages, by both; the burns of each mantle. No program in sight. -/
section
set_option linter.all false
namespace Go.Sp
open Go.Av
set_option maxRecDepth 100000
theorem ze3 {T:Type} [Inhabited T] {p:T→Option Bool} {q:T→Bool} (hp:∀ x,p x=some (q x)) (l:List T) :
 (zao (zav (fun i1 (s1:Unit) k1=>zao (p (l.getD i1 default)) fun y3=>(bif y3 then some (i1:Int) else k1 ())) (fun (s1:Unit)=>some (-1)) l.length 0 ():Option Int) fun y1=>some (decide (0≤y1)))=some (l.any q):=by
 rw [ze1 hp l]
 show some _=some _
 congr 1
 cases h:l.findIdx? q with
 | none=>
  rw [List.findIdx?_eq_none_iff] at h
  have:l.any q=false:=by rw [List.any_eq_false];intro x hx;simp [-List.getD_eq_getElem?_getD,h x hx]
  rw [this];rfl
 | some i=>
  rw [List.findIdx?_eq_some_iff_getElem] at h
  obtain ⟨h1,h2,_⟩:=h
  have:l.any q=true:=List.any_eq_true.2 ⟨_,List.getElem_mem h1,h2⟩
  rw [this];simp [-List.getD_eq_getElem?_getD]
def zkd (w:Wear) (known:Int) (i k:Nat):Prop:=(bn w k).Lamp=(bn w i).Lamp∧(bn w k).Night=(bn w i).Night∧zau (bn w k).Known (bn w k).Until known=true
theorem zmW {w:Wear} {known:Int} {i:Nat}:tell w known i=true↔0≤fit w (bn w i).Lamp (bn w i).Night known∧zau (bn w i).Known (bn w i).Until known=true∧∀ k,k<w.Burns.length→i<k→¬ zkd w known i k:=by
 simp only [tell,Bool.and_eq_true,decide_eq_true_eq,and_assoc,zkd]
theorem zp4 {w:Wear} {known:Int} {i:Nat}:(w.Burns.drop (i+1)).any (fun x0=>zbt x0 (bn w i) known)=true↔∃ k,k<w.Burns.length∧i<k∧zkd w known i k:=by
 rw [List.any_eq_true]
 constructor
 · rintro ⟨x,hx,h⟩
   obtain ⟨j,hj,rfl⟩:=zeZ hx
   rw [List.length_drop] at hj
   rw [getD_drop] at h
   refine ⟨i+1+j,by omega,by omega,?_⟩
   simp only [zbt,Bool.and_eq_true,decide_eq_true_eq,and_assoc] at h
   exact h
 · rintro ⟨k,hk,hik,h⟩
   refine ⟨bn w k,?_,by simp only [zbt,Bool.and_eq_true,decide_eq_true_eq,and_assoc];exact h⟩
   have:(w.Burns.drop (i+1)).getD (k - (i+1)) default=bn w k:=by rw [getD_drop];unfold bn;congr 1;omega
   rw [← this]
   exact zcz (by rw [List.length_drop];omega)
theorem znA {w:Wear} (V:WearOk w) {fuel:Nat} (hf:100<fuel) (known:Int):zbV fuel w known=some ((List.range w.Burns.length).map (tell w known)):=by
 have nu:=V.nu;have nm:=V.nm
 unfold zbV
 refine Wp.eq ?_
 refine ziY w.Burns.length (by omega) (fun i (s:List Bool)=>s=(List.range i).map (tell w known)) rfl (fun i s K hi hI hK=>?_)
 subst hI
 by_cases hin:i<w.Burns.length
 · refine zaY (by simp [-List.getD_eq_getElem?_getD];omega) (zas (by simp only;omega) ?_)
   simp only [Int.toNat_natCast]
   refine zat (at_eq (by omega) nm _ _ known) (zaq (by omega) ?_)
   refine wp_loop (fun s=>∃ k:Nat,s.1=(k:Int)∧i+1≤k∧k≤w.Burns.length∧(s.2=true↔0≤fit w (bn w i).Lamp (bn w i).Night known∧zau (bn w i).Known (bn w i).Until known=true∧∀ j,j<k→i<j→¬ zkd w known i j)) (fun s=>w.Burns.length - s.1.toNat) (by simp only;omega)
    ⟨i+1,by simp [-List.getD_eq_getElem?_getD],Nat.le_refl _,hin,?_⟩ (fun s K2 hI2 hK2=>?_)
   · show (_ && _)=true↔_
     have e:(atR w (w.Burns.getD i default).Lamp (w.Burns.getD i default).Night known).2=decide (0≤fit w (bn w i).Lamp (bn w i).Night known):=by
      unfold atR bn
      by_cases h:fit w (w.Burns.getD i default).Lamp (w.Burns.getD i default).Night known<0
      · rw [if_pos h];simp [-List.getD_eq_getElem?_getD];omega
      · rw [if_neg h];simp [-List.getD_eq_getElem?_getD];omega
     rw [e,Bool.and_eq_true,decide_eq_true_eq]
     exact ⟨fun h=>⟨h.1,h.2,fun j hj hij=>by omega⟩,fun h=>⟨h.1,h.2.1⟩⟩
   obtain ⟨x,b⟩:=s
   obtain ⟨k,h1,h2,h3,h4⟩:=hI2
   simp only at h1 h4 hK2 ⊢
   subst h1
   by_cases hk:k<w.Burns.length
   · refine zaY (by simp [-List.getD_eq_getElem?_getD];omega) (zas (by omega) (zaq (by omega) (hK2 _ ⟨k+1,by simp [-List.getD_eq_getElem?_getD],by omega,by omega,?_⟩ (by simp only;omega))))
     simp only [Int.toNat_natCast,Bool.and_eq_true,h4]
     have e:(((!decide ((w.Burns.getD k default).Lamp=(w.Burns.getD i default).Lamp)) || (!decide ((w.Burns.getD k default).Night=(w.Burns.getD i default).Night))) || (!(zay ((w.Burns.getD k default).Known) ((w.Burns.getD k default).Until) known)))=true↔¬ zkd w known i k:=by
      simp only [Bool.or_eq_true,Bool.not_eq_true',decide_eq_false_iff_not,zkd,bn,rcounts]
      constructor
      · rintro ((h|h)|h) ⟨h1,h2,h3⟩
        · exact h h1
        · exact h h2
        · rw [h] at h3;cases h3
      · intro h
        by_cases h1:(w.Burns.getD k default).Lamp=(w.Burns.getD i default).Lamp
        · by_cases h2:(w.Burns.getD k default).Night=(w.Burns.getD i default).Night
          · refine .inr ?_
            cases h3:zau (w.Burns.getD k default).Known (w.Burns.getD k default).Until known with
            | false=>rfl
            | true=>exact absurd ⟨h1,h2,h3⟩ h
          · exact .inl (.inr h2)
        · exact .inl (.inl h1)
     rw [e]
     constructor
     · rintro ⟨⟨a1,a2,a3⟩,a4⟩
       refine ⟨a1,a2,fun j hj hij=>?_⟩
       by_cases e:j=k
       · rw [e];exact a4
       · exact a3 j (by omega) hij
     · rintro ⟨a1,a2,a3⟩
       exact ⟨⟨a1,a2,fun j hj hij=>a3 j (by omega) hij⟩,a3 k (by omega) (by omega)⟩
   · have:k=w.Burns.length:=by omega
     subst this
     refine zaR (by simp [-List.getD_eq_getElem?_getD]) (zcW (by simp [-List.getD_eq_getElem?_getD];omega) (zaq (by omega) (hK _ hin ?_)))
     rw [List.range_succ,List.map_append]
     congr 1
     simp only [List.map_cons,List.map_nil]
     congr 1
     rw [Bool.eq_iff_iff,h4,zmW]
 · have:i=w.Burns.length:=by omega
   subst this
   exact zaR (by simp [-List.getD_eq_getElem?_getD]) (zap rfl)
theorem zlX {w:Wear} (V:WearOk w) {i:Nat} (hi:i<w.Burns.length):BurnOk (bn w i):=(V.bu i hi).1
theorem sum60 {w:Wear} (V:WearOk w) (P:Nat→Bool) {n:Nat} (hn:n≤w.Burns.length):(0≤zb1 P (fun i=>(bn w i).Minutes.Lo) n∧zb1 P (fun i=>(bn w i).Minutes.Lo) n≤86400)∧(0≤zb1 P (fun i=>(bn w i).Minutes.Hi) n∧zb1 P (fun i=>(bn w i).Minutes.Hi) n≤86400):=by
 have nu:=V.nu
 have h1:=zf4 (P:=P) (f:=fun i=>(bn w i).Minutes.Lo) (c:=1440) (by decide) (n:=n) (fun i hi=>by have:=(zlX V (i:=i) (by omega)).min;omega)
 have h2:=zf4 (P:=P) (f:=fun i=>(bn w i).Minutes.Hi) (c:=1440) (by decide) (n:=n) (fun i hi=>by have:=(zlX V (i:=i) (by omega)).min;omega)
 have:(n:Int) * 1440≤86400:=by omega
 omega
def zgh (w:Wear) (known:Int) (m:Mantle) (night:Int) (i:Nat):Bool:=tell w known i && decide ((bn w i).Lamp=m.Lamp) && zan (bn w i).Night m.Night night
theorem zpz {w:Wear} (V:WearOk w) {fuel:Nat} (hf:100<fuel) (m:Mantle) (night known:Int):zbd fuel w m ⟨night,known⟩=some ⟨zb1 (zgh w known m night) (fun i=>(bn w i).Minutes.Lo) w.Burns.length,zb1 (zgh w known m night) (fun i=>(bn w i).Minutes.Hi) w.Burns.length⟩:=by
 have nu:=V.nu
 unfold zbd
 refine Wp.eq (zat (znA V hf known) ?_)
 refine ziY w.Burns.length (by omega) (fun i (s:Range)=>s=⟨zb1 (zgh w known m night) (fun i=>(bn w i).Minutes.Lo) i,zb1 (zgh w known m night) (fun i=>(bn w i).Minutes.Hi) i⟩) rfl (fun i s K hi hI hK=>?_)
 subst hI
 by_cases hin:i<w.Burns.length
 · have hb:=(zlX V hin).min
   have h60:=sum60 V (zgh w known m night) (n:=i) (by omega)
   refine zaY (by simp [-List.getD_eq_getElem?_getD];omega) (zas (by simp only;omega) (zas (by simp [-List.getD_eq_getElem?_getD];omega) ?_))
   simp only [Int.toNat_natCast]
   have e:((((List.range w.Burns.length).map (tell w known)).getD i default && (decide ((w.Burns.getD i default).Lamp=m.Lamp))) && (zan ((w.Burns.getD i default).Night) m.Night night))=zgh w known m night i:=by
    have:((List.range w.Burns.length).map (tell w known)).getD i default=tell w known i:=by
     rw [List.getD_eq_getElem?_getD,List.getElem?_map,List.getElem?_range hin];rfl
    rw [this];rfl
   rw [e]
   have e3:∀ f:Nat→Int,zb1 (zgh w known m night) f (i+1)=zb1 (zgh w known m night) f i+(if zgh w known m night i=true then f i else 0):=fun f=>rfl
   unfold bn at hb h60
   refine zbu (fun h=>zaq (by simp only [bn];omega) (zaq (by simp only [bn];omega) (zaq (by omega) (hK _ hin ?_)))) (fun h=>zaq (by omega) (hK _ hin ?_))
   · rw [e3,e3,if_pos h,if_pos h];rfl
   · rw [e3,e3,if_neg (by rw [h];decide),if_neg (by rw [h];decide),Int.add_zero,Int.add_zero]
 · have:i=w.Burns.length:=by omega
   subst this
   exact zaR (by simp [-List.getD_eq_getElem?_getD]) (zap rfl)
theorem znj {w:Wear} (V:WearOk w) {known lamp night:Int} {m:Nat} (h:FitIs w lamp night known w.Mantles.length m) {i:Nat} (hi:i<w.Burns.length):zgh w known (mt w m) night i=zkL w known (m:Int) (-1) night i:=by
 rw [Bool.eq_iff_iff]
 unfold zgh zkL zan
 simp only [Bool.and_eq_true,decide_eq_true_eq]
 have hb:=(zlX V hi).told.night
 constructor
 · rintro ⟨⟨h1,h2⟩,h3,h4⟩
   refine ⟨⟨h1,?_⟩,by omega,h4⟩
   rw [h2,h.cand.1]
   exact (h.earlier h3 h4).fit
 · rintro ⟨⟨h1,h2⟩,h3,h4⟩
   have h5:=zqh h2
   exact ⟨⟨h1,h5.cand.1.symm⟩,h5.cand.2.1,h4⟩
theorem zom {w:Wear} (V:WearOk w) {fuel:Nat} (hf:100<fuel) {known lamp night:Int} {m:Nat} (h:FitIs w lamp night known w.Mantles.length m):zbd fuel w (mt w m) ⟨night,known⟩=some ⟨zhY w known m (-1) night,zd7 w known m (-1) night⟩:=by
 rw [zpz V hf]
 unfold zhY zd7
 rw [zf3 (fun i hi=>znj V h hi),zf3 (fun i hi=>znj V h hi)]
def zim (w:Wear) (known m:Int) (n:Nat):List Int:=((List.range n).filter (fun i=>tell w known i && decide (fit w (bn w i).Lamp (bn w i).Night known=m))).map (fun i:Nat=>(i:Int))
theorem zki {w:Wear} {known m:Int} {n:Nat}:zim w known m (n+1)=if tell w known n=true∧fit w (bn w n).Lamp (bn w n).Night known=m then zim w known m n++[(n:Int)] else zim w known m n:=by
 unfold zim
 rw [List.range_succ,List.filter_append,List.map_append]
 by_cases h:tell w known n=true∧fit w (bn w n).Lamp (bn w n).Night known=m
 · rw [if_pos h]
   simp [-List.getD_eq_getElem?_getD,h]
 · rw [if_neg h]
   have:(tell w known n && decide (fit w (bn w n).Lamp (bn w n).Night known=m))=false:=by
    rw [Bool.and_eq_false_iff,decide_eq_false_iff_not]
    by_cases h1:tell w known n=true
    · exact .inr (fun h2=>h ⟨h1,h2⟩)
    · exact .inl (by simpa [-List.getD_eq_getElem?_getD] using h1)
   simp [-List.getD_eq_getElem?_getD,this]
theorem zhS {w:Wear} {known m:Int} {n:Nat} {x:Int} (h:x∈zim w known m n):0≤x∧x<(n:Int):=by
 unfold zim at h
 rw [List.mem_map] at h
 obtain ⟨i,hi,rfl⟩:=h
 have:=List.mem_range.1 (List.mem_filter.1 hi).1
 omega
theorem zjK (w:Wear) (known m:Int) (n:Nat):(zim w known m n).length≤n:=by
 unfold zim
 rw [List.length_map]
 exact Nat.le_trans (List.length_filter_le _ _) (by simp [-List.getD_eq_getElem?_getD])
theorem Mp.zpD {T:Type}:(Mp.empty:Mp T).ok:=⟨List.nodup_nil,rfl,fun k hk=>by cases hk⟩
theorem Mp.ok_set {T:Type} {m:Mp T} (h:m.ok) (hd:∀ k,(m.get k).isSome=true→k∈m.keys) (q:Int) (x:T):(m.set q x).ok∧∀ k,((m.set q x).get k).isSome=true→k∈(m.set q x).keys:=by
 obtain ⟨h1,h2,h3⟩:=h
 unfold Mp.set Mp.ok
 by_cases hq:(m.get q).isSome=true
 · simp only [hq,if_true]
   refine ⟨⟨h1,h2,fun k hk=>?_⟩,fun k hk=>?_⟩
   · by_cases e:k=q
     · rw [if_pos e];rfl
     · rw [if_neg e];exact h3 k hk
   · by_cases e:k=q
     · rw [e];exact hd q hq
     · rw [if_neg e] at hk;exact hd k hk
 · simp only [hq]
   have hnq:q ∉ m.keys:=fun h=>hq (h3 q h)
   refine ⟨⟨?_,by simp [-List.getD_eq_getElem?_getD,h2],fun k hk=>?_⟩,fun k hk=>?_⟩
   · show (m.keys++[q]).Nodup
     rw [List.nodup_append]
     exact ⟨h1,by simp [-List.getD_eq_getElem?_getD],fun a ha b hb=>by
      rw [List.mem_singleton] at hb
      subst hb
      exact fun e=>hnq (e▸ha)⟩
   · by_cases e:k=q
     · rw [if_pos e];rfl
     · rw [if_neg e]
       have:k∈m.keys++[q]:=hk
       rw [List.mem_append,List.mem_singleton] at this
       exact h3 k (this.resolve_right e)
   · show k∈m.keys++[q]
     rw [List.mem_append,List.mem_singleton]
     by_cases e:k=q
     · exact .inr e
     · rw [if_neg e] at hk;exact .inl (hd k hk)
theorem zp6 {w:Wear} (V:WearOk w) {fuel:Nat} (hf:1000≤fuel) (known:Int):Wp (zek fuel w known) (fun mp=>∀ m,((mp.get m).getD default).Perm (zim w known m w.Burns.length)):=by
 have nu:=V.nu
 unfold zek
 refine zd9 (fun i s=>(s.ok∧∀ k,(s.get k).isSome=true→k∈s.keys)∧∀ m,(s.get m).getD []=zim w known m i) ⟨⟨Mp.zpD,fun k hk=>by cases hk⟩,fun m=>rfl⟩ (fun i s K hi hI hK=>?_) (fun s hs=>?_)
 · obtain ⟨⟨h1,h2⟩,h3⟩:=hI
   refine zat (zjv w _ _ known) (zas (fun _=>by omega) ?_)
   refine zlg (Q:=fun y=>y=(w.Burns.drop (i+1)).any (fun x0=>zbt x0 (bn w i) known)) (fun _=>?_) (fun y6 h6=>?_)
   · have e:(((i:Int)+1)).toNat=i+1:=by omega
     rw [e]
     exact ⟨_,ze3 (q:=fun x0=>zbt x0 (bn w i) known) (fun x=>rfl) _,rfl⟩
   have e:(((decide (0≤fit w (w.Burns.getD i default).Lamp (w.Burns.getD i default).Night known)) && (zau ((w.Burns.getD i default).Known) ((w.Burns.getD i default).Until) known)) && (!y6))=tell w known i:=by
    rw [Bool.eq_iff_iff,zmW]
    simp only [Bool.and_eq_true,Bool.not_eq_true',decide_eq_true_eq,and_assoc,bn]
    refine and_congr_right (fun a1=>and_congr_right (fun a2=>?_))
    have h7:=h6 (by simp only [Bool.and_eq_true,decide_eq_true_eq];exact ⟨a1,a2⟩)
    rw [h7,← Bool.not_eq_true,zp4]
    exact ⟨fun h k hk hik hl=>h ⟨k,hk,hik,hl⟩,fun h ⟨k,hk,hik,hl⟩=>h k hk hik hl⟩
   rw [e]
   have hlen:=zjK w known (fit w (w.Burns.getD i default).Lamp (w.Burns.getD i default).Night known) i
   refine zbu (fun ht=>zcW (by rw [h3];simp [-List.getD_eq_getElem?_getD];omega) (hK _ ⟨Mp.ok_set h1 h2 _ _,fun m=>?_⟩)) (fun ht=>hK _ ⟨⟨h1,h2⟩,fun m=>?_⟩)
   · rw [h3]
     show (if m=_ then some _ else s.get m).getD []=_
     rw [zki]
     by_cases e1:m=fit w (bn w i).Lamp (bn w i).Night known
     · have e2:tell w known i=true∧fit w (bn w i).Lamp (bn w i).Night known=m:=⟨ht,e1.symm⟩
       rw [if_pos e2,e1]
       exact congrArg (fun z=>Option.getD z []) (if_pos rfl)
     · have e2:¬ (tell w known i=true∧fit w (bn w i).Lamp (bn w i).Night known=m):=fun h=>e1 h.2.symm
       rw [if_neg e2,← h3 m]
       exact congrArg (fun z=>Option.getD z []) (if_neg e1)
   · rw [zki,if_neg (fun h=>by rw [ht] at h;cases h.1),h3]
 · obtain ⟨⟨h1,h2⟩,h3⟩:=hs
   refine zas h1 ?_
   have hsort:∀ m,Wp (zaH fuel ((s.get m).getD []) (fun x0 x1=>zbS x0 x1 w)) (fun r=>r.Perm ((s.get m).getD [])):=fun m=>by
    have hl:=zjK w known m w.Burns.length
    refine zkv hf (by rw [h3];omega) (fun a ha b hb=>?_)
    rw [h3] at ha hb
    have a1:=zhS ha
    have b1:=zhS hb
    unfold zbS
    rw [zgP a1,zgP b1]
    exact ⟨_,rfl⟩
   have hrow:∀ m,Wp (zao (zaH fuel ((s.get m).getD []) (fun x0 x1=>zbS x0 x1 w)) fun y13=>must (y13.length=((s.get m).getD []).length) (some y13)) (fun r=>r.Perm ((s.get m).getD [])):=fun m=>wp_bind (hsort m) (fun y hy=>zas hy.length_eq (zap hy))
   refine wp_bind (Q:=fun y=>∀ m,((y.get m).getD default).Perm (zim w known m w.Burns.length)) ?_ (fun y hy=>zap hy)
   unfold Mp.zne
   have hall:s.keys.all (fun k=>((fun (l11:List Int)=>zao (zaH fuel l11 (fun x0 x1=>zbS x0 x1 w)) fun y13=>must (y13.length=l11.length) (some y13)) ((s.get k).getD default)).isSome)=true:=by
    rw [List.all_eq_true]
    intro k _
    obtain ⟨r,e,_⟩:=hrow k
    show (zao (zaH fuel ((s.get k).getD []) (fun x0 x1=>zbS x0 x1 w)) fun y13=>must (y13.length=((s.get k).getD []).length) (some y13)).isSome=true
    rw [e];rfl
   rw [hall]
   refine zap (fun m=>?_)
   rw [← h3]
   obtain ⟨r,e,hr⟩:=hrow m
   cases hm:s.get m with
   | none=>simp only [hm];exact .refl _
   | some l=>
    rw [hm] at e hr
    simp only [Option.getD_some,hm] at e hr ⊢
    rw [e];exact hr
end Go.Sp
end
/- Plain laws, mantle: the closet: which lives each batch may have. No program in sight. -/
section
set_option linter.all false
namespace Go.Sp
open Go.Av
set_option maxRecDepth 100000
def lsum (g:Int→Int):List Int→Int
 | []=>0
 | x::l=>g x+lsum g l
theorem zoE {g:Int→Int} {l r:List Int} (h:l.Perm r):lsum g l=lsum g r:=by
 induction h with
 | nil=>rfl
 | cons x _ ih=>unfold lsum;rw [ih]
 | swap x y l=>unfold lsum;unfold lsum;omega
 | trans _ _ h1 h2=>rw [h1,h2]
theorem zgf {g:Int→Int} (l:List Int) (x:Int):lsum g (l++[x])=lsum g l+g x:=by
 induction l with
 | nil=>simp [-List.getD_eq_getElem?_getD,lsum]
 | cons y l ih=>rw [List.cons_append];unfold lsum;rw [ih];omega
theorem zkc {g:Int→Int} {c:Int} (hc:0≤c):∀ {l:List Int},(∀ x∈l,0≤g x∧g x≤c)→0≤lsum g l∧lsum g l≤(l.length:Int) * c
 | [],_=>by simp [-List.getD_eq_getElem?_getD,lsum]
 | x::l,h=>by
  unfold lsum
  have h1:=zkc hc (fun y hy=>h y (List.mem_cons_of_mem _ hy)) (g:=g) (l:=l)
  have h2:=h x (List.mem_cons_self ..)
  have:((x::l).length:Int) * c=(l.length:Int) * c+c:=by rw [List.length_cons,Int.natCast_add,Int.add_mul];simp [-List.getD_eq_getElem?_getD]
  rw [this];omega
theorem zkb {P:Nat→Bool} {g:Int→Int}:∀ {n:Nat},lsum g (((List.range n).filter P).map (fun i:Nat=>(i:Int)))=zb1 P (fun i=>g i) n
 | 0=>rfl
 | n+1=>by
  rw [List.range_succ,List.filter_append,List.map_append]
  unfold zb1
  rw [← zkb]
  by_cases h:P n=true
  · rw [if_pos h]
    have:(List.filter P [n]).map (fun i:Nat=>(i:Int))=[(n:Int)]:=by simp [-List.getD_eq_getElem?_getD,h]
    rw [this,zgf]
  · rw [if_neg h]
    have:(List.filter P [n]).map (fun i:Nat=>(i:Int))=[]:=by simp [-List.getD_eq_getElem?_getD,h]
    rw [this,List.append_nil,Int.add_zero]
theorem zj4 {P Q:Nat→Bool} {f:Nat→Int}:∀ {n:Nat},zb1 P (fun i=>if Q i=true then f i else 0) n=zb1 (fun i=>P i && Q i) f n
 | 0=>rfl
 | n+1=>by
  unfold zb1
  rw [zj4]
  cases hp:P n <;> cases hq:Q n <;> simp [-List.getD_eq_getElem?_getD]
structure CoatOk (w:Wear) (known:Int) (m:Nat) (S:List mantle_sight) (c:mantle_coat):Prop where
 wear:c.w=w
 burns:c.burns.Perm (zim w known m w.Burns.length)
 sights:c.sights=S
theorem zds {T:Type} [Inhabited T] {l:List T} {i:Nat} (h:i<l.length):l.take (i+1)=l.take i++[l.getD i default]:=by
 rw [List.take_add_one,List.getElem?_eq_getElem h,List.getD_eq_getElem?_getD,List.getElem?_eq_getElem h];rfl
theorem zmS {w:Wear} (V:WearOk w) {known:Int} {m:Nat} {S:List mantle_sight} {c:mantle_coat} (hc:CoatOk w known m S c) (f t:Int):zbq c f t=some ⟨zhY w known m f t,zd7 w known m f t⟩:=by
 have nu:=V.nu
 unfold zbq
 rw [hc.wear]
 have hlen:c.burns.length≤60:=by have:=hc.burns.length_eq;have:=zjK w known m w.Burns.length;omega
 have hin:∀ i,i<c.burns.length→0≤c.burns.getD i default∧c.burns.getD i default<(w.Burns.length:Int):=fun i hi=>zhS (hc.burns.mem_iff.1 (zcz hi))
 let g:(Burn→Int)→Int→Int:=fun F x=>if f<(bn w x.toNat).Night∧(bn w x.toNat).Night≤t then F (bn w x.toNat) else 0
 have hL:∀ F,(∀ b,BurnOk b→0≤F b∧F b≤1440)→∀ i,0≤lsum (g F) (c.burns.take i)∧lsum (g F) (c.burns.take i)≤86400:=fun F hF i=>by
  have:=zkc (g:=g F) (c:=1440) (by decide) (l:=c.burns.take i) (fun x hx=>by
   have hx':=zhS (hc.burns.mem_iff.1 (List.mem_of_mem_take hx))
   have:=hF _ (zlX V (i:=x.toNat) (by omega))
   simp only [g]
   split <;> omega)
  have h2:(c.burns.take i).length≤60:=by rw [List.length_take];omega
  omega
 have hlo:∀ b,BurnOk b→0≤b.Minutes.Lo∧b.Minutes.Lo≤1440:=fun b hb=>by have:=hb.min;omega
 have hhi:∀ b,BurnOk b→0≤b.Minutes.Hi∧b.Minutes.Hi≤1440:=fun b hb=>by have:=hb.min;omega
 refine Wp.eq (zd9 (fun i s=>s=⟨lsum (g (·.Minutes.Lo)) (c.burns.take i),lsum (g (·.Minutes.Hi)) (c.burns.take i)⟩) rfl (fun i s K hi hI hK=>?_) (fun s hs=>zap ?_))
 · subst hI
   have a:=hin i hi
   have b1:=hL _ hlo i
   have b2:=hL _ hhi i
   have hb:=(zlX V (i:=(c.burns.getD i default).toNat) (by omega)).min
   refine zas a ?_
   have e:((decide (f<(w.Burns.getD ((c.burns.getD i default)).toNat default).Night)) && (decide ((w.Burns.getD ((c.burns.getD i default)).toNat default).Night≤t)))=decide (f<(bn w (c.burns.getD i default).toNat).Night∧(bn w (c.burns.getD i default).toNat).Night≤t):=by
    rw [Bool.decide_and];rfl
   rw [e]
   unfold bn at hb
   refine zch (fun h=>zaq (by simp only;omega) (zaq (by simp only;omega) (hK _ ?_))) (fun h=>hK _ ?_)
   · rw [zds hi,zgf,zgf]
     simp only [g]
     rw [if_pos h,if_pos h];rfl
   · rw [zds hi,zgf,zgf]
     simp only [g]
     rw [if_neg h,if_neg h,Int.add_zero,Int.add_zero]
 · rw [hs,List.take_length]
   have key:∀ F:Burn→Int,lsum (g F) c.burns=zb1 (zkL w known m f t) (fun i=>F (bn w i)) w.Burns.length:=fun F=>by
    rw [zoE hc.burns]
    unfold zim
    rw [zkb]
    have:(fun i:Nat=>g F (i:Int))=fun i:Nat=>if (decide (f<(bn w i).Night) && decide ((bn w i).Night≤t))=true then F (bn w i) else 0:=by
     funext i
     simp only [g,Int.toNat_natCast,Bool.and_eq_true,decide_eq_true_eq]
    rw [this,zj4]
    rfl
   have k1:=key (fun b=>b.Minutes.Lo)
   have k2:=key (fun b=>b.Minutes.Hi)
   show Range.mk _ _=Range.mk _ _
   rw [k1,k2];rfl
structure Ends (S:List mantle_sight) (g b:Int):Prop where
 top:∀ x∈S,x.bad=false→x.night≤g
 good:g = -1∨∃ x∈S,x.bad=false∧x.night=g
 low:∀ x∈S,x.bad=true→b ≠ -1∧b≤x.night
 bad:b = -1∨∃ x∈S,x.bad=true∧x.night=b
 g0 : -1≤g
 b0 : -1≤b
theorem Ends.uniq {S:List mantle_sight} {g b g' b':Int} (h:Ends S g b) (h':Ends S g' b'):g=g'∧b=b':=by
 constructor
 · rcases h.good with e|⟨x,hx,h1,h2⟩ <;> rcases h'.good with e'|⟨y,hy,h3,h4⟩
   · omega
   · have:=h.top y hy h3;have:=h'.g0;have:=h.g0;omega
   · have:=h'.top x hx h1;have:=h'.g0;have:=h.g0;omega
   · have:=h.top y hy h3;have:=h'.top x hx h1;omega
 · rcases h.bad with e|⟨x,hx,h1,h2⟩ <;> rcases h'.bad with e'|⟨y,hy,h3,h4⟩
   · omega
   · exact absurd e (h.low y hy h3).1
   · exact absurd e' (h'.low x hx h1).1
   · have:=(h.low y hy h3).2;have:=(h'.low x hx h1).2;omega
theorem zo4 (c:mantle_coat) (hn:∀ x∈c.sights,0≤x.night):Wp (zcB c) (fun r=>Ends c.sights r.1 r.2):=by
 unfold zcB
 refine zd9 (fun i s=>Ends (c.sights.take i) s.1 s.2) ⟨fun x hx=>by simp [-List.getD_eq_getElem?_getD] at hx,.inl rfl,fun x hx=>by simp [-List.getD_eq_getElem?_getD] at hx,.inl rfl,by decide,by decide⟩ (fun i s K hi hI hK=>?_) (fun s hs=>zap (by rw [List.take_length] at hs;exact hs))
 obtain ⟨g,b⟩:=s
 obtain ⟨h1,h2,h3,h4,h5,h6⟩:=hI
 simp only at h1 h2 h3 h4 h5 h6 ⊢
 have e:c.sights.getD i default=c.sights.getD i default:=rfl
 have hm:=zcz hi
 have h0:=hn _ hm
 generalize hx:c.sights.getD i default=x at hm h0 ⊢
 have hmem:∀ y,y∈c.sights.take (i+1)↔y∈c.sights.take i∨y=x:=fun y=>by rw [zds hi,hx];simp [-List.getD_eq_getElem?_getD]
 refine zbu (fun hb=>hK _ ?_) (fun hb=>?_)
 · have hb':x.bad=false:=by simpa [-List.getD_eq_getElem?_getD] using hb
   refine ⟨fun y hy hyb=>?_,?_,fun y hy hyb=>?_,?_,?_,h6⟩
   · rcases (hmem y).1 hy with hy|rfl
     · have:=h1 y hy hyb;simp only;omega
     · simp only;omega
   · simp only
     rcases Int.le_total g x.night with hle|hle
     · exact .inr ⟨x,(hmem x).2 (.inr rfl),hb',by omega⟩
     · rcases h2 with e|⟨y,hy,y1,y2⟩
       · exact .inr ⟨x,(hmem x).2 (.inr rfl),hb',by omega⟩
       · exact .inr ⟨y,(hmem y).2 (.inl hy),y1,by omega⟩
   · rcases (hmem y).1 hy with hy|rfl
     · exact h3 y hy hyb
     · rw [hb'] at hyb;cases hyb
   · rcases h4 with e|⟨y,hy,y1,y2⟩
     · exact .inl e
     · exact .inr ⟨y,(hmem y).2 (.inl hy),y1,y2⟩
   · simp only;omega
 · have hb':x.bad=true:=by simpa [-List.getD_eq_getElem?_getD] using hb
   refine zbu (fun hc=>hK _ ?_) (fun hc=>hK _ ?_)
   · simp only [Bool.or_eq_true,decide_eq_true_eq] at hc
     refine ⟨fun y hy hyb=>?_,?_,fun y hy hyb=>?_,.inr ⟨x,(hmem x).2 (.inr rfl),hb',rfl⟩,h5,by simp only;omega⟩
     · rcases (hmem y).1 hy with hy|rfl
       · exact h1 y hy hyb
       · rw [hb'] at hyb;cases hyb
     · rcases h2 with e|⟨y,hy,y1,y2⟩
       · exact .inl e
       · exact .inr ⟨y,(hmem y).2 (.inl hy),y1,y2⟩
     · simp only
       rcases (hmem y).1 hy with hy|rfl
       · have:=h3 y hy hyb;omega
       · omega
   · simp only [Bool.or_eq_false_iff,decide_eq_false_iff_not] at hc
     refine ⟨fun y hy hyb=>?_,?_,fun y hy hyb=>?_,?_,h5,h6⟩
     · rcases (hmem y).1 hy with hy|rfl
       · exact h1 y hy hyb
       · rw [hb'] at hyb;cases hyb
     · rcases h2 with e|⟨y,hy,y1,y2⟩
       · exact .inl e
       · exact .inr ⟨y,(hmem y).2 (.inl hy),y1,y2⟩
     · rcases (hmem y).1 hy with hy|rfl
       · exact h3 y hy hyb
       · simp only;omega
     · rcases h4 with e|⟨y,hy,y1,y2⟩
       · exact .inl e
       · exact .inr ⟨y,(hmem y).2 (.inl hy),y1,y2⟩
theorem zn4 {w:Wear} (V:WearOk w) {known m f t t':Int} (h:t≤t'):zhY w known m f t≤zhY w known m f t':=by
 refine zi8 (fun i hi=>by have:=(zlX V hi).min;omega) (fun i hi hp=>?_)
 simp only [zkL,Bool.and_eq_true,decide_eq_true_eq] at hp ⊢
 exact ⟨hp.1,hp.2.1,by omega⟩
theorem zkn {w:Wear} (V:WearOk w) {known m f f' t t':Int} (h:t≤t') (hf:f'≤f):zd7 w known m f t≤zd7 w known m f' t':=by
 refine zi8 (fun i hi=>by have:=(zlX V hi).min;omega) (fun i hi hp=>?_)
 simp only [zkL,Bool.and_eq_true,decide_eq_true_eq] at hp ⊢
 exact ⟨hp.1,by omega,by omega⟩
theorem zjM {w:Wear} (V:WearOk w) (known m f t:Int):(0≤zhY w known m f t∧zhY w known m f t≤86400)∧(0≤zd7 w known m f t∧zd7 w known m f t≤86400):=sum60 V _ (Nat.le_refl _)
theorem zjN {w:Wear} {known m:Int} {a b c:Int} (h1:a≤b) (h2:b≤c):zd7 w known m a c=zd7 w known m a b+zd7 w known m b c:=by
 refine zj5 (fun i hi=>?_) (fun i hi h=>?_)
 · rw [Bool.eq_iff_iff]
   simp only [zkL,Bool.or_eq_true,Bool.and_eq_true,decide_eq_true_eq]
   constructor
   · rintro ⟨h3,h4,h5⟩
     rcases Int.lt_or_le b (bn w i).Night with h|h
     · exact .inr ⟨h3,h,h5⟩
     · exact .inl ⟨h3,h4,h⟩
   · rintro (⟨h3,h4,h5⟩|⟨h3,h4,h5⟩)
     · exact ⟨h3,h4,by omega⟩
     · exact ⟨h3,by omega,h5⟩
 · simp only [zkL,Bool.and_eq_true,decide_eq_true_eq] at h
   omega
structure OkBy (w:Wear) (known m:Int) (S:List mantle_sight) (x:Int):Prop where
 range:0≤x∧x≤1000000
 good:∀ s∈S,s.bad=false→zhY w known m (-1) s.night≤x
 bad:∀ s∈S,s.bad=true→x<zd7 w known m (-1) s.night
 two:∀ s∈S,∀ t∈S,s.bad=false→t.bad=true→s.night<t.night∧0<zd7 w known m s.night t.night
def zh7 (w:Wear) (known m g b:Int):Range:=
 if g ≠ -1∧b ≠ -1∧(b≤g∨zd7 w known m g b=0) then ⟨1,0⟩ else ⟨if g ≠ -1 then zhY w known m (-1) g else 0,if b ≠ -1 then min 1000000 (zd7 w known m (-1) b - 1) else 1000000⟩
def inR (r:Range) (x:Int):Prop:=r.Lo≤x∧x≤r.Hi
theorem zpI {w:Wear} (V:WearOk w) {known:Int} {m:Nat} {S:List mantle_sight} {c:mantle_coat} (hc:CoatOk w known m S c) (hn:∀ x∈S,0≤x.night) {g b:Int} (he:Ends S g b):zbz c=some (zh7 w known m g b):=by
 unfold zbz
 obtain ⟨r,e,hr⟩:=zo4 c (by rw [hc.sights];exact hn)
 rw [hc.sights] at hr
 obtain ⟨e1,e2⟩:=hr.uniq he
 have er:r=(g,b):=Prod.ext e1 e2
 subst er
 refine Wp.eq (zat e ?_)
 have hb:=zjM V known m
 unfold zh7
 refine ze5 (fun s=>s=if g ≠ -1 then zhY w known m (-1) g else 0) (fun K hK=>?_) (fun s hs=>?_)
 · refine zir (fun h=>zat (zmS V hc _ _) (hK _ ?_)) (fun h=>hK _ ?_)
   · rw [if_pos h]
   · rw [if_neg (by omega)]
 subst hs
 refine ze5 (fun s=>s=if b ≠ -1 then min 1000000 (zd7 w known m (-1) b - 1) else 1000000) (fun K hK=>?_) (fun s hs=>?_)
 · refine zir (fun h=>zat (zmS V hc _ _) (zaq (by have:=hb (-1) b;simp only;omega) (hK _ ?_))) (fun h=>hK _ ?_)
   · rw [if_pos h]
   · rw [if_neg (by omega)]
 subst hs
 refine zlg (Q:=fun y=>y=⟨zhY w known m g b,zd7 w known m g b⟩) (fun _=>⟨_,zmS V hc _ _,rfl⟩) (fun y hy=>?_)
 simp only [Bool.and_eq_true,Bool.not_eq_true',decide_eq_false_iff_not] at hy
 refine zbu (fun h=>zap ?_) (fun h=>zap ?_)
 · simp only [Bool.and_eq_true,Bool.or_eq_true,Bool.not_eq_true',decide_eq_false_iff_not,decide_eq_true_eq] at h
   obtain ⟨⟨h1,h2⟩,h3⟩:=h
   have:b≤g∨zd7 w known m g b=0:=by
    rcases h3 with h3|h3
    · exact .inl h3
    · by_cases h4:b≤g
      · exact .inl h4
      · rw [hy ⟨⟨h1,h2⟩,h4⟩] at h3;exact .inr h3
   rw [if_pos ⟨h1,h2,this⟩]
 · have:¬ (g ≠ -1∧b ≠ -1∧(b≤g∨zd7 w known m g b=0)):=by
    rintro ⟨h1,h2,h3⟩
    have h5:(((!decide (g=(-1))) && (!decide (b=(-1)))) && ((decide (b≤g)) || (decide (y.Hi=0))))=true:=by
     simp only [Bool.and_eq_true,Bool.or_eq_true,Bool.not_eq_true',decide_eq_false_iff_not,decide_eq_true_eq]
     refine ⟨⟨h1,h2⟩,?_⟩
     by_cases h4:b≤g
     · exact .inl h4
     · rw [hy ⟨⟨h1,h2⟩,h4⟩];exact .inr (h3.resolve_left h4)
    rw [h5] at h;cases h
   rw [if_neg this]
theorem zly {w:Wear} (V:WearOk w) {known m:Int} {S:List mantle_sight} (hn:∀ x∈S,0≤x.night) {g b:Int} (he:Ends S g b) (x:Int):inR (zh7 w known m g b) x↔OkBy w known m S x:=by
 have hb:=zjM V known m
 unfold zh7
 by_cases hc:g ≠ -1∧b ≠ -1∧(b≤g∨zd7 w known m g b=0)
 · rw [if_pos hc]
   obtain ⟨c1,c2,c3⟩:=hc
   refine ⟨fun h=>by have:=h.1;have:=h.2;simp only at *;omega,fun h=>?_⟩
   obtain ⟨s,hs,s1,s2⟩:=he.good.resolve_left c1
   obtain ⟨t,ht,t1,t2⟩:=he.bad.resolve_left c2
   have:=h.two s hs t ht s1 t1
   rw [s2,t2] at this
   omega
 · rw [if_neg hc]
   unfold inR
   simp only
   constructor
   · rintro ⟨h1,h2⟩
     refine ⟨?_,fun s hs sb=>?_,fun s hs sb=>?_,fun s hs t ht sb tb=>?_⟩
     · have:=hb (-1) g;have:=hb (-1) b
       constructor
       · split at h1 <;> omega
       · split at h2 <;> omega
     · have a:=he.top s hs sb
       have a0:=hn s hs
       rw [if_pos (by omega)] at h1
       have:=zn4 V (known:=known) (m:=m) (f:=-1) a
       omega
     · have a:=he.low s hs sb
       rw [if_pos a.1] at h2
       have:=zkn V (known:=known) (m:=m) (f:=-1) a.2 (Int.le_refl _)
       omega
     · have a:=he.top s hs sb
       have a0:=hn s hs
       have a2:=he.low t ht tb
       have:¬ (b≤g∨zd7 w known m g b=0):=fun h=>hc ⟨by omega,a2.1,h⟩
       have h3:0<zd7 w known m g b:=by have:=hb g b;omega
       have h4:=zkn V (known:=known) (m:=m) (f:=g) (f':=s.night) a2.2 a
       exact ⟨by omega,by omega⟩
   · intro h
     have hr:=h.range
     constructor
     · by_cases c1:g ≠ -1
       · rw [if_pos c1]
         obtain ⟨s,hs,s1,s2⟩:=he.good.resolve_left c1
         rw [← s2];exact h.good s hs s1
       · rw [if_neg c1];exact hr.1
     · by_cases c2:b ≠ -1
       · rw [if_pos c2]
         obtain ⟨t,ht,t1,t2⟩:=he.bad.resolve_left c2
         have:=h.bad t ht t1
         rw [t2] at this;omega
       · rw [if_neg c2];exact hr.2
theorem zqK (S:List mantle_sight) (hn:∀ x∈S,0≤x.night):∃ g b,Ends S g b:=by
 obtain ⟨r,_,h⟩:=zo4 ⟨zo8,[],S⟩ hn
 exact ⟨_,_,h⟩
theorem zqr {c:mantle_coat} {w:Wear} {known:Int} {m:Nat} {S:List mantle_sight} (hc:CoatOk w known m S c) (x:mantle_sight) (hl:S.length≤1000000):Wp (zbP c x) (fun r=>CoatOk w known m (S++[x]) r):=by
 unfold zbP zbX
 have e:=hc.sights
 refine wp_bind (Q:=fun y=>y=S) (zcW (by rw [e];simp [-List.getD_eq_getElem?_getD];omega) (zap (by rw [e];simp [-List.getD_eq_getElem?_getD]))) (fun y hy=>?_)
 subst hy
 exact zcW (by simp [-List.getD_eq_getElem?_getD];omega) (zap ⟨hc.wear,hc.burns,rfl⟩)
end Go.Sp
end
/- Plain laws, mantle: the closet that hang fills. No program in sight. -/
section
set_option linter.all false
namespace Go.Sp
open Go.Av
set_option maxRecDepth 100000
def ba (w:Wear) (i:Nat):Batch:=w.Batches.getD i default
def bat (w:Wear) (i:Nat):Int:=zcI w (mt w i).Batch
theorem zql {w:Wear} (V:WearOk w) {i:Nat} (hi:i<w.Mantles.length):0≤bat w i∧bat w i<(w.Batches.length:Int):=by
 refine ⟨?_,zgD w _⟩
 rcases Int.lt_or_le (bat w i) 0 with h|h
 · exact absurd (V.has i hi) (zft.1 h)
 · exact h
structure Hung (w:Wear) (known:Int) (S:Nat→List mantle_sight) (c:mantle_closet):Prop where
 wear:c.w=w
 asof:c.known=known
 coats:∀ i:Nat,i<w.Mantles.length→∃ x,c.coats.get (i:Int)=some x∧CoatOk w known i (S i) x
 len:c.lives.length=w.Batches.length
 lives:∀ b:Nat,b<w.Batches.length→∀ x,inR (c.lives.getD b default) x↔inR (ba w b).Life x∧∀ i,i<w.Mantles.length→bat w i=(b:Int)→OkBy w known i (S i) x
 nights:∀ i,i<w.Mantles.length→∀ s∈S i,0≤s.night
 few:∀ i,i<w.Mantles.length→(S i).length≤1000
def lk (l:List Look) (i:Nat):Look:=l.getD i default
def zci (w:Wear) (known:Int) (l:List Look) (m:Nat):Nat→List mantle_sight
 | 0=>[]
 | n+1=>if fit w (lk l n).Lamp (lk l n).Night known=(m:Int)∧zau (lk l n).Known (lk l n).Until known=true then zci w known l m n++[⟨(lk l n).Night,(lk l n).Bad⟩] else zci w known l m n
def sights (w:Wear) (known:Int) (l:List Look) (m:Nat):List mantle_sight:=zci w known l m l.length
theorem zdY {w:Wear} {known:Int} {l:List Look} {m:Nat} {s:mantle_sight}:∀ {n:Nat},s∈zci w known l m n↔∃ i,i<n∧fit w (lk l i).Lamp (lk l i).Night known=(m:Int)∧zau (lk l i).Known (lk l i).Until known=true∧s=⟨(lk l i).Night,(lk l i).Bad⟩
 | 0=>⟨fun h=>(by cases h),fun ⟨i,hi,_⟩=>absurd hi (Nat.not_lt_zero _)⟩
 | n+1=>by
  unfold zci
  by_cases hc:fit w (lk l n).Lamp (lk l n).Night known=(m:Int)∧zau (lk l n).Known (lk l n).Until known=true
  · rw [if_pos hc,List.mem_append,List.mem_singleton,zdY]
    constructor
    · rintro (⟨i,hi,h⟩|h)
      · exact ⟨i,by omega,h⟩
      · exact ⟨n,by omega,hc.1,hc.2,h⟩
    · rintro ⟨i,hi,h⟩
      by_cases e:i=n
      · subst e;exact .inr h.2.2
      · exact .inl ⟨i,by omega,h⟩
  · rw [if_neg hc,zdY]
    constructor
    · rintro ⟨i,hi,h⟩;exact ⟨i,by omega,h⟩
    · rintro ⟨i,hi,h⟩
      by_cases e:i=n
      · subst e;exact absurd ⟨h.1,h.2.1⟩ hc
      · exact ⟨i,by omega,h⟩
theorem zhe {w:Wear} {known:Int} {l:List Look} {m:Nat}:∀ n,(zci w known l m n).length≤n
 | 0=>by simp [-List.getD_eq_getElem?_getD,zci]
 | n+1=>by
  unfold zci
  have:=zhe (w:=w) (known:=known) (l:=l) (m:=m) n
  split
  · simp [-List.getD_eq_getElem?_getD];omega
  · omega
theorem zny {a b:Range} {x:Int}:inR (za3 a b) x↔inR a x∧inR b x:=by
 unfold za3 inR;simp only;omega
theorem zqL (c:mantle_closet) (hl:c.w.Mantles.length≤60):zbT c=some ((List.range' 0 c.w.Mantles.length).map (fun i:Nat=>((i:Int),(c.coats.get (i:Int)).getD default))):=by
 unfold zbT
 rw [zgP (by omega),znZ (fun _=>true) (fun i:Nat=>((i:Int),(c.coats.get (i:Int)).getD default)) (fun i r hi=>rfl)]
 rw [List.filter_eq_self.2 (fun _ _=>rfl)]
theorem zqq {A S R:Type} {body:A→S→(S→Option R)→Option R} {ex:S→Option R} {s0:S} {P:R→Prop} (n:Nat) (f:Nat→A) (Inv:Nat→S→Prop) (h0:Inv 0 s0)
 (hb:∀ (j:Nat) s (K:S→Option R),j<n→Inv j s→(∀ s',Inv (j+1) s'→Wp (K s') P)→Wp (body (f j) s K) P) (he:∀ s,Inv n s→Wp (ex s) P):Wp (ziw body ex ((List.range' 0 n).map f) s0) P:=by
 have go:∀ (m j:Nat),j+m=n→∀ s,Inv j s→Wp (ziw body ex ((List.range' j m).map f) s) P:=by
  intro m
  induction m with
  | zero=>intro j hj s hs;have e:j=n:=(by omega);subst e;exact he s hs
  | succ m ih=>
   intro j hj s hs
   rw [List.range'_succ,List.map_cons]
   exact hb j s _ (by omega) hs (fun s' h'=>ih (j+1) (by omega) s' h')
 exact go n 0 (by omega) s0 h0
theorem zot {c:mantle_closet} {b:Nat} (hb:b<c.lives.length) (r:Range):zbA c (b:Int) r=some ⟨c.w,c.known,c.coats,c.lives.set b (za3 (c.lives.getD b default) r)⟩:=by
 unfold zbA
 rw [zgP (by omega),zgP (by omega)]
 rfl
theorem Mp.zkO {T:Type} (m:Mp T) (k j:Int) (x:T):(m.set k x).get j=if j=k then some x else m.get j:=rfl
theorem zmv {w:Wear} (V:WearOk w) {fuel:Nat} (hf:1000≤fuel) {l:List Look} (hl:l.length≤1000) (hn:∀ x∈l,0≤x.Night) (known:Int):Wp (zbO fuel w l known) (fun c=>Hung w known (sights w known l) c):=by
 have nm:=V.nm;have nb:=V.nb
 unfold zbO
 refine wp_bind (zp6 V hf known) (fun y1 hy1=>zas (by omega) ?_)
 refine zd9 (fun i s=>∀ j:Nat,j<i→∃ x,s.get (j:Int)=some x∧CoatOk w known j [] x) (fun j hj=>absurd hj (Nat.not_lt_zero _)) (fun i s K hi hI hK=>hK _ (fun j hj=>?_)) (fun s3 h3=>?_)
 · by_cases e:j=i
   · subst e
     exact ⟨_,by rw [Mp.zkO,if_pos rfl],rfl,hy1 _,rfl⟩
   · rw [Mp.zkO,if_neg (by omega)]
     exact hI j (by omega)
 refine zd9 (fun i s=>∀ j:Nat,j<w.Mantles.length→∃ x,s.get (j:Int)=some x∧CoatOk w known j (zci w known l j i) x) h3 (fun i s K hi hI hK=>?_) (fun s5 h5=>?_)
 · refine zat (zjv w _ _ known) ?_
   have hfl:=zqg w (l.getD i default).Lamp (l.getD i default).Night known
   refine zbu (fun h=>?_) (fun h=>hK _ (fun j hj=>?_))
   · simp only [Bool.and_eq_true,decide_eq_true_eq] at h
     obtain ⟨m,hm⟩:∃ m:Nat,fit w (l.getD i default).Lamp (l.getD i default).Night known=(m:Int):=⟨_,(Int.toNat_of_nonneg h.1).symm⟩
     rw [hm] at hfl ⊢
     obtain ⟨x,e,hx⟩:=hI m (by omega)
     rw [e]
     refine wp_bind (zqr hx _ (by have:=zhe (w:=w) (known:=known) (l:=l) (m:=m) i;omega)) (fun y hy=>hK _ (fun j hj=>?_))
     by_cases ej:j=m
     · subst ej
       refine ⟨y,by rw [Mp.zkO,if_pos rfl],?_⟩
       unfold zci
       rw [if_pos ⟨hm,h.2⟩]
       exact hy
     · rw [Mp.zkO,if_neg (by omega)]
       unfold zci
       rw [if_neg (fun h'=>ej (by have:=h'.1.symm.trans hm;omega))]
       exact hI j hj
   · unfold zci
     rw [if_neg (fun h'=>?_)]
     · exact hI j hj
     · rw [Bool.and_eq_false_iff,decide_eq_false_iff_not] at h
       rcases h with h|h
       · exact h (by have:=h'.1;unfold lk at this;omega)
       · have:=h'.2;unfold lk at this;rw [this] at h;cases h
 refine zd9 (fun i s=>s.length=i∧∀ b,b<i→s.getD b default=(ba w b).Life) ⟨rfl,fun b hb=>absurd hb (Nat.not_lt_zero _)⟩ (fun i s K hi hI hK=>zcW (by simp [-List.getD_eq_getElem?_getD];omega) (hK _ ⟨by simp [-List.getD_eq_getElem?_getD,hI.1],fun b hb=>?_⟩)) (fun s12 h12=>?_)
 · rw [zlH]
   by_cases e:b=s.length
   · rw [if_pos e,e,hI.1];rfl
   · rw [if_neg e];exact hI.2 b (by omega)
 refine zat (zqL _ nm) ?_
 refine zqq w.Mantles.length _ (fun j s=>s.length=w.Batches.length∧∀ b:Nat,b<w.Batches.length→∀ x,inR (s.getD b default) x↔inR (ba w b).Life x∧∀ i,i<j→bat w i=(b:Int)→OkBy w known i (sights w known l i) x)
  ⟨h12.1,fun b hb x=>by rw [h12.2 b hb];exact ⟨fun h=>⟨h,fun i hi=>absurd hi (Nat.not_lt_zero _)⟩,fun h=>h.1⟩⟩ (fun j s K hj hI hK=>?_) (fun s hs=>zap ?_)
 · obtain ⟨x,e,hx⟩:=h5 j hj
   have hsn:∀ y∈sights w known l j,0≤y.night:=fun y hy=>by
    obtain ⟨i,hi,_,_,e⟩:=zdY.1 hy
    rw [e];exact hn _ (zcz hi)
   obtain ⟨g,b,he⟩:=zqK (sights w known l j) hsn
   refine zas (by omega) (zat (zin w _) ?_)
   simp only [Int.toNat_natCast]
   have hbt:=zql V hj
   have ebt:zcI w (w.Mantles.getD j default).Batch=bat w j:=rfl
   rw [e,ebt]
   obtain ⟨q,hq⟩:∃ q:Nat,bat w j=(q:Int):=⟨_,(Int.toNat_of_nonneg hbt.1).symm⟩
   rw [hq] at hbt ⊢
   refine zat (zpI V hx hsn he) (zat (zot (c:=⟨w,known,s5,s⟩) (by simp only;omega) _) (zas (by simp [-List.getD_eq_getElem?_getD]) (hK _ ⟨by simp [-List.getD_eq_getElem?_getD,hI.1],fun b' hb' y=>?_⟩)))
   have hlm:=zly V hsn he y (known:=known) (m:=(j:Int))
   simp only
   rw [zpR _ _ _ _ _ (by omega)]
   by_cases eb:b'=q
   · subst eb
     rw [if_pos rfl,zny,hI.2 b' hb',hlm]
     constructor
     · rintro ⟨⟨a1,a2⟩,a3⟩
       refine ⟨a1,fun i hi hbi=>?_⟩
       by_cases ei:i=j
       · rw [ei];exact a3
       · exact a2 i (by omega) hbi
     · rintro ⟨a1,a2⟩
       exact ⟨⟨a1,fun i hi hbi=>a2 i (by omega) hbi⟩,a2 j (by omega) hq⟩
   · rw [if_neg eb,hI.2 b' hb']
     constructor
     · rintro ⟨a1,a2⟩
       refine ⟨a1,fun i hi hbi=>?_⟩
       by_cases ei:i=j
       · rw [ei,hq] at hbi;omega
       · exact a2 i (by omega) hbi
     · rintro ⟨a1,a2⟩
       exact ⟨a1,fun i hi hbi=>a2 i (by omega) hbi⟩
 · refine ⟨rfl,rfl,h5,hs.1,hs.2,fun i hi y hy=>?_,fun i hi=>?_⟩
   · obtain ⟨k,hk,_,_,e⟩:=zdY.1 hy
     rw [e];exact hn _ (zcz hk)
   · exact Nat.le_trans (zhe _) hl
def zb0 (w:Wear) (known:Int) (S:Nat→List mantle_sight):Prop:=∀ b:Nat,b<w.Batches.length→∃ x,inR (ba w b).Life x∧∀ i,i<w.Mantles.length→bat w i=(b:Int)→OkBy w known i (S i) x
theorem zia {w:Wear} {known:Int} {S:Nat→List mantle_sight} {c:mantle_closet} (h:Hung w known S c):Wp (zaD c) (fun r=>r=true↔zb0 w known S):=by
 unfold zaD
 refine zat (show zbR c.lives _=_ from ze3 (q:=zbk) (fun x=>rfl) _) (zap ?_)
 rw [Bool.not_eq_true',List.any_eq_false]
 constructor
 · intro h1 b hb
   have h2:=h1 _ (zcz (l:=c.lives) (i:=b) (by rw [h.len];exact hb))
   have h3:(c.lives.getD b default).Lo≤(c.lives.getD b default).Hi:=by
    simp only [zbk,decide_eq_true_eq] at h2;omega
   exact ⟨_,(h.lives b hb _).1 ⟨Int.le_refl _,h3⟩⟩
 · intro h1 r hr
   obtain ⟨b,hb,rfl⟩:=zeZ hr
   obtain ⟨x,hx⟩:=h1 b (by rw [← h.len];exact hb)
   have:=(h.lives b (by rw [← h.len];exact hb) x).2 hx
   unfold inR at this
   simp only [zbk,decide_eq_true_eq];omega
end Go.Sp
end
/- Plain laws, mantle: whether a mantle is bad. No program in sight. -/
section
set_option linter.all false
namespace Go.Sp
open Go.Av
set_option maxRecDepth 100000
def za5 (n:Int):Prop:=0≤n∧n≤100000
instance (n:Int):Decidable (za5 n):=inferInstanceAs (Decidable (_∧_))
theorem zjq {n:Int}:zaM n=true↔za5 n:=by simp [-List.getD_eq_getElem?_getD,zaM,zaL,za5]
theorem zf7 {n:Int}:zax n=true↔za5 n:=by simp [-List.getD_eq_getElem?_getD,zax,zan,za5]
theorem zhE {w:Wear} (V:WearOk w) {l:List Int} (h:∀ n∈l,za5 n):zbc w l=some 0:=by
 unfold zbc
 refine Wp.eq (zat (zlx V) (zaR (by simp [-List.getD_eq_getElem?_getD]) (zat (show zbv l _=_ from ze3 (q:=zbx) (fun x=>rfl) _) ?_)))
 refine zaR ?_ (zap rfl)
 rw [List.any_eq_false]
 intro n hn
 simp [-List.getD_eq_getElem?_getD,zbx,zjq.2 (h n hn)]
theorem zgO {w:Wear} (V:WearOk w) {l:List Int} (h:¬ ∀ n∈l,za5 n):zbc w l=some 6:=by
 unfold zbc
 refine Wp.eq (zat (zlx V) (zaR (by simp [-List.getD_eq_getElem?_getD]) (zat (show zbv l _=_ from ze3 (q:=zbx) (fun x=>rfl) _) ?_)))
 refine zaY ?_ (zap rfl)
 rw [List.any_eq_true]
 refine Classical.byContradiction (fun k=>h (fun n hn=>?_))
 refine Classical.byContradiction (fun k2=>k ⟨n,hn,?_⟩)
 unfold zbx
 cases h3:zaM n with
 | false=>rfl
 | true=>exact absurd (zjq.1 h3) k2
theorem zgN {w:Wear} (hf:Fits w) (V:¬ WearOk w) (l:List Int):zbc w l=some 64:=by
 unfold zbc
 exact Wp.eq (zat (znP hf V) (zaY (by simp [-List.getD_eq_getElem?_getD]) (zap rfl)))
end Go.Sp
end
/- Plain laws, mantle: the document's lives and states. No program in sight. -/
section
set_option linter.all false
namespace Go.Sp
open Go.Av
set_option maxRecDepth 100000
structure ToldL (known:Int) (L:List Look):Prop where
 few:L.length≤900
 night:∀ l∈L,0≤l.Night
 cnt:∀ l∈L,zau l.Known l.Until known=true
def tells (w:Wear) (known:Int) (l:Look):Bool:=decide (0≤fit w l.Lamp l.Night known) && zau l.Known l.Until known
def zcS (w:Wear) (known:Int):List Look:=w.Looks.filter (tells w known)
theorem atR_2 {w:Wear} {lamp night known:Int}:(atR w lamp night known).2=decide (0≤fit w lamp night known):=by
 unfold atR
 by_cases h:fit w lamp night known<0
 · rw [if_pos h];simp [-List.getD_eq_getElem?_getD];omega
 · rw [if_neg h];simp [-List.getD_eq_getElem?_getD];omega
theorem look_ok {w:Wear} (V:WearOk w) {l:Look} (h:l∈w.Looks):zjO l:=V.lo.ok h
theorem zdV {w:Wear} (V:WearOk w) (known:Int):ToldL known (zcS w known):=by
 refine ⟨by have:=V.nl;have:=List.length_filter_le (tells w known) w.Looks;unfold zcS;omega,fun l hl=>?_,fun l hl=>?_⟩
 · exact (look_ok V (List.mem_filter.1 hl).1).night.1
 · have:=(List.mem_filter.1 hl).2
   unfold tells at this
   exact (Bool.and_eq_true _ _▸this).2
theorem zjc {w:Wear} (V:WearOk w) {fuel:Nat} (hf:1000≤fuel) (known:Int):zbo fuel w known=some (zcS w known):=by
 have nl:=V.nl;have nm:=V.nm
 unfold zbo
 refine Wp.eq (ziY w.Looks.length (by omega) (fun i s=>s=(w.Looks.take i).filter (tells w known)) rfl (fun i s K hi hI hK=>?_))
 by_cases hin:i<w.Looks.length
 · refine zaY (by simp [-List.getD_eq_getElem?_getD];omega) (zas (by simp only;omega) ?_)
   simp only [Int.toNat_natCast]
   refine zat (at_eq (by omega) nm _ _ known) ?_
   rw [atR_2]
   have e:(decide (0≤fit w (w.Looks.getD i default).Lamp (w.Looks.getD i default).Night known) && zay (w.Looks.getD i default).Known (w.Looks.getD i default).Until known)=tells w known (w.Looks.getD i default):=rfl
   rw [e]
   have hl:s.length≤i:=by rw [hI];exact Nat.le_trans (List.length_filter_le _ _) (by rw [List.length_take];omega)
   refine zbu (fun h=>zcW (by simp [-List.getD_eq_getElem?_getD];omega) (zaq (by omega) (hK _ hin ?_))) (fun h=>zaq (by omega) (hK _ hin ?_))
   · rw [zds hin,List.filter_append,hI];simp [-List.getD_eq_getElem?_getD,h]
   · rw [zds hin,List.filter_append,hI];simp [-List.getD_eq_getElem?_getD,h]
 · have:i=w.Looks.length:=by omega
   subst this
   exact zaR (by simp [-List.getD_eq_getElem?_getD]) (zap (by rw [hI,List.take_length];rfl))
theorem zqs {w:Wear} (V:WearOk w) {i j:Nat} (hi:i<w.Mantles.length) (hj:j<w.Mantles.length) (e:(mt w i).Source=(mt w j).Source):i=j:=V.ma.inj hi hj e
theorem zqd {w:Wear} (V:WearOk w) {i j:Nat} (hi:i<w.Batches.length) (hj:j<w.Batches.length) (e:(ba w i).Id=(ba w j).Id):i=j:=V.ba.inj hi hj e
theorem zqt {w:Wear} (V:WearOk w) {fuel:Nat} (hf:1000≤fuel) {known:Int} {L:List Look} (hL:ToldL known L) {m:Nat} (hm:m<w.Mantles.length) :
 Wp (zcq fuel w (mt w m) ⟨L,known⟩) (fun r=>Ends (sights w known L m) r.Good r.Bad):=by
 have nm:=V.nm;have hfew:=hL.few
 unfold zcq
 refine ziY L.length (by omega) (fun i s=>Ends (zci w known L m i) s.Good s.Bad) ⟨fun x hx=>(by cases hx),.inl rfl,fun x hx=>(by cases hx),.inl rfl,(by decide),(by decide)⟩ (fun i s K hi hI hK=>?_)
 by_cases hin':¬ i<L.length
 · have:i=L.length:=by omega
   subst this
   exact zaR (by simp [-List.getD_eq_getElem?_getD]) (zap hI)
 have hin:=Classical.not_not.1 hin'
 refine zaY (by simp [-List.getD_eq_getElem?_getD];omega) ?_
 refine ze5 (fun s'=>Ends (zci w known L m (i+1)) s'.Good s'.Bad) (fun K2 hK2=>?_) (fun s' hs'=>zaq (by omega) (hK _ hin hs'))
 refine zas (by simp only;omega) ?_
 simp only [Int.toNat_natCast]
 refine zat (at_eq (by omega) nm _ _ known) ?_
 have hln:=hL.night _ (zcz hin)
 have hlc:=hL.cnt _ (zcz hin)
 have e:((!(atR w (L.getD i default).Lamp (L.getD i default).Night known).2) || (!decide ((atR w (L.getD i default).Lamp (L.getD i default).Night known).1.Source=(mt w m).Source))) = !decide (fit w (lk L i).Lamp (lk L i).Night known=(m:Int)):=by
  unfold atR lk
  have hfl:=zqg w (L.getD i default).Lamp (L.getD i default).Night known
  by_cases h:fit w (L.getD i default).Lamp (L.getD i default).Night known<0
  · rw [if_pos h];simp [-List.getD_eq_getElem?_getD];omega
  · rw [if_neg h]
    have:(mt w (fit w (L.getD i default).Lamp (L.getD i default).Night known).toNat).Source=(mt w m).Source↔fit w (L.getD i default).Lamp (L.getD i default).Night known=(m:Int):=by
     refine ⟨fun h2=>?_,fun h2=>by rw [h2];rfl⟩
     have:=zqs V (by omega) hm h2
     omega
    simp only [this,Bool.not_true,Bool.false_or]
 rw [e]
 unfold zci at hK2
 refine zir (fun h=>hK2 _ ?_) (fun h=>?_)
 · rw [if_neg (fun k=>h k.1)];exact hI
 rw [if_pos ⟨h,hlc⟩] at hK2
 obtain ⟨x,hx⟩:∃ x,lk L i=x:=⟨_,rfl⟩
 rw [hx] at hK2
 have hx':L.getD i default=x:=hx
 rw [hx'] at hln
 obtain ⟨h1,h2,h3,h4,h5,h6⟩:=hI
 refine ze5 (fun g=>(x.Bad=true→g=s.Good)∧(x.Bad=false→g=max s.Good x.Night)) (fun K3 hK3=>?_) (fun g hg=>?_)
 · refine zbu (fun hb=>hK3 _ ?_) (fun hb=>hK3 _ ?_)
   · simp only [Bool.and_eq_true,Bool.not_eq_true',decide_eq_true_eq] at hb
     rw [hx'] at hb ⊢
     exact ⟨fun k=>(by rw [hb.1] at k;cases k),fun _=>(by omega)⟩
   · simp only [Bool.and_eq_false_iff,Bool.not_eq_false',decide_eq_false_iff_not] at hb
     rw [hx'] at hb
     exact ⟨fun _=>rfl,fun k=>(by rw [k] at hb;simp [-List.getD_eq_getElem?_getD] at hb;omega)⟩
 have key:∀ b:Int,(x.Bad=false→b=s.Bad)→(x.Bad=true→(s.Bad = -1→b=x.Night)∧(s.Bad ≠ -1→b=min s.Bad x.Night))→Ends (zci w known L m i++[⟨x.Night,x.Bad⟩]) g b:=by
  intro b hb1 hb2
  have hmem:∀ y,y∈zci w known L m i++[⟨x.Night,x.Bad⟩]↔y∈zci w known L m i∨y=⟨x.Night,x.Bad⟩:=fun y=>by simp [-List.getD_eq_getElem?_getD]
  cases hxb:x.Bad with
  | false=>
   have eg:=hg.2 hxb
   have eb:=hb1 hxb
   subst eg;subst eb
   refine ⟨fun y hy hyb=>?_,?_,fun y hy hyb=>?_,?_,by omega,h6⟩
   · rw [hxb] at hmem
     rcases (hmem y).1 hy with hy|rfl
     · have:=h1 y hy hyb;omega
     · simp only;omega
   · rcases Int.le_total s.Good x.Night with hle|hle
     · exact .inr ⟨⟨x.Night,false⟩,by simp [-List.getD_eq_getElem?_getD],rfl,by simp only;omega⟩
     · rcases h2 with e|⟨y,hy,y1,y2⟩
       · exact .inr ⟨⟨x.Night,false⟩,by simp [-List.getD_eq_getElem?_getD],rfl,by simp only;omega⟩
       · exact .inr ⟨y,List.mem_append.2 (.inl hy),y1,by omega⟩
   · rw [hxb] at hmem
     rcases (hmem y).1 hy with hy|rfl
     · exact h3 y hy hyb
     · cases hyb
   · rcases h4 with e|⟨y,hy,y1,y2⟩
     · exact .inl e
     · exact .inr ⟨y,List.mem_append.2 (.inl hy),y1,y2⟩
  | true=>
   have eg:=hg.1 hxb
   have eb:=hb2 hxb
   subst eg
   refine ⟨fun y hy hyb=>?_,?_,fun y hy hyb=>?_,?_,h5,?_⟩
   · rw [hxb] at hmem
     rcases (hmem y).1 hy with hy|rfl
     · exact h1 y hy hyb
     · cases hyb
   · rcases h2 with e|⟨y,hy,y1,y2⟩
     · exact .inl e
     · exact .inr ⟨y,List.mem_append.2 (.inl hy),y1,y2⟩
   · rw [hxb] at hmem
     rcases (hmem y).1 hy with hy|rfl
     · have a:=h3 y hy hyb
       have:=eb.2 a.1
       have:=h6
       omega
     · simp only
       by_cases e:s.Bad = -1
       · have:=eb.1 e;omega
       · have:=eb.2 e;omega
   · by_cases e:s.Bad = -1
     · exact .inr ⟨⟨x.Night,true⟩,by simp [-List.getD_eq_getElem?_getD],rfl,(eb.1 e).symm⟩
     · have eb2:=eb.2 e
       obtain ⟨y,hy,y1,y2⟩:=h4.resolve_left e
       rcases Int.le_total s.Bad x.Night with hle|hle
       · exact .inr ⟨y,List.mem_append.2 (.inl hy),y1,by omega⟩
       · exact .inr ⟨⟨x.Night,true⟩,by simp [-List.getD_eq_getElem?_getD],rfl,by simp only;omega⟩
   · by_cases e:s.Bad = -1
     · have:=eb.1 e;omega
     · have:=eb.2 e;omega
 refine zbu (fun hb=>hK2 _ (key (L.getD i default).Night (fun k=>?_) (fun k=>?_))) (fun hb=>hK2 _ (key s.Bad (fun k=>rfl) (fun k=>?_)))
 · rw [Bool.and_eq_true] at hb
   have hb1:=hb.1
   rw [hx',k] at hb1;cases hb1
 · simp only [Bool.and_eq_true,Bool.or_eq_true,decide_eq_true_eq] at hb
   rw [hx'] at hb ⊢
   exact ⟨fun _=>rfl,fun _=>by omega⟩
 · simp only [Bool.and_eq_false_iff,Bool.or_eq_false_iff,decide_eq_false_iff_not] at hb
   rw [hx'] at hb
   rcases hb with hb|hb
   · rw [k] at hb;cases hb
   · exact ⟨fun e=>by omega,fun _=>by omega⟩
theorem zh0 {w:Wear} {known:Int} {L:List Look} {m:Nat} {s:mantle_sight} (h:s∈sights w known L m):∃ lamp,FitIs w lamp s.night known w.Mantles.length m:=by
 obtain ⟨i,_,h1,_,h3⟩:=zdY.1 h
 refine ⟨(lk L i).Lamp,?_⟩
 rw [h3]
 exact zqh h1
theorem zlk {w:Wear} {known:Int} {L:List Look} (hL:ToldL known L) {m:Nat} {s:mantle_sight} (h:s∈sights w known L m):0≤s.night:=by
 obtain ⟨i,hi,_,_,h3⟩:=zdY.1 h
 rw [h3];exact hL.night _ (zcz hi)
theorem zpN {w:Wear} (V:WearOk w) {fuel:Nat} (hf:1000≤fuel) {known:Int} {L:List Look} {m:Nat} {g b:Int} (he:Ends (sights w known L m) g b) (h:g ≠ -1):zbd fuel w (mt w m) ⟨g,known⟩=some ⟨zhY w known m (-1) g,zd7 w known m (-1) g⟩:=by
 obtain ⟨s,hs,_,e⟩:=he.good.resolve_left h
 obtain ⟨lamp,hf2⟩:=zh0 hs
 rw [← e]
 exact zom V (by omega) hf2
theorem zqQ {w:Wear} (V:WearOk w) {fuel:Nat} (hf:1000≤fuel) {known:Int} {L:List Look} {m:Nat} {g b:Int} (he:Ends (sights w known L m) g b) (h:b ≠ -1):zbd fuel w (mt w m) ⟨b,known⟩=some ⟨zhY w known m (-1) b,zd7 w known m (-1) b⟩:=by
 obtain ⟨s,hs,_,e⟩:=he.bad.resolve_left h
 obtain ⟨lamp,hf2⟩:=zh0 hs
 rw [← e]
 exact zom V (by omega) hf2
theorem zoh {w:Wear} (V:WearOk w) {fuel:Nat} (hf:1000≤fuel) {known:Int} {L:List Look} (hL:ToldL known L) {m:Nat} (hm:m<w.Mantles.length) :
 Wp (zcb fuel w (mt w m) ⟨L,known⟩) (fun r=>∀ x,inR r x↔OkBy w known m (sights w known L m) x):=by
 unfold zcb
 refine wp_bind (zqt V hf hL hm) (fun y1 he=>?_)
 obtain ⟨g,b⟩:=y1
 simp only at he ⊢
 have hb:=zjM V known m
 have h0:=fun x=>zly V (fun s hs=>zlk hL hs) he x (known:=known) (m:=(m:Int))
 have g0:=he.g0;have b0:=he.b0
 refine ze5 (fun s=>s.1=(if g ≠ -1 then zhY w known m (-1) g else 0)∧s.2.Hi=if g ≠ -1 then zd7 w known m (-1) g else 0) (fun K hK=>?_) (fun s hs=>?_)
 · refine zch (fun h=>zat (zpN V hf he (by omega)) (hK _ ⟨?_,?_⟩)) (fun h=>hK _ ⟨?_,?_⟩)
   · rw [if_pos (by omega)]
   · rw [if_pos (by omega)]
   · rw [if_neg (by omega)]
   · rw [if_neg (by omega)]
 obtain ⟨s1,s2⟩:=s
 simp only at hs ⊢
 obtain ⟨e1,e2⟩:=hs
 refine ze5 (fun t=>t=(if b ≠ -1 then zd7 w known m (-1) b - 1 else 1000000)∧¬ (g ≠ -1∧b ≠ -1∧(b≤g∨zd7 w known m g b=0))) (fun K hK=>?_) (fun t ht=>zap (fun x=>?_))
 · refine zch (fun h=>zat (zqQ V hf he (by omega)) (zaq (by have:=hb (-1) b;simp only;omega) ?_)) (fun h=>hK _ ⟨?_,fun k=>?_⟩)
   · refine zbu (fun h2=>zap (fun x=>?_)) (fun h2=>hK _ ⟨?_,fun k=>?_⟩)
     · simp only [Bool.or_eq_true,decide_eq_true_eq] at h2
       refine ⟨fun h=>by unfold inR at h;simp only at h;omega,fun h=>?_⟩
       have h3:=(h0 x).2 h
       unfold zh7 at h3
       by_cases hg:g ≠ -1
       · rw [if_pos hg] at e2
         have hc:b≤g∨zd7 w known m g b=0:=by
          rcases h2 with h2|h2
          · exact .inl h2
          · by_cases h4:b≤g
            · exact .inl h4
            · have:=zjN (w:=w) (known:=known) (m:=(m:Int)) (a:=-1) (b:=g) (c:=b) (by omega) (by omega)
              exact .inr (by omega)
         rw [if_pos ⟨hg,by omega,hc⟩] at h3
         exact h3
       · rw [if_neg hg] at e2
         rw [if_neg (fun k=>hg k.1),if_neg hg,if_pos (by omega)] at h3
         unfold inR at h3 ⊢
         simp only at h3 ⊢
         omega
     · rw [if_pos (by omega)]
     · simp only [Bool.or_eq_false_iff,decide_eq_false_iff_not] at h2
       obtain ⟨k1,k2,k3⟩:=k
       rw [if_pos k1] at e2
       rcases k3 with k3|k3
       · exact h2.1 k3
       · have:=zjN (w:=w) (known:=known) (m:=(m:Int)) (a:=-1) (b:=g) (c:=b) (by omega) (by omega)
         omega
   · rw [if_neg (by omega)]
   · omega
 · obtain ⟨t1,t2⟩:=ht
   rw [← h0 x]
   unfold zh7
   rw [if_neg t2]
   unfold inR
   simp only
   rw [e1,t1]
   have:=hb (-1) b
   by_cases hbb:b ≠ -1
   · rw [if_pos hbb,if_pos hbb]
     constructor
     · intro h;omega
     · intro h;omega
   · rw [if_neg hbb,if_neg hbb]
theorem zqC {w:Wear} (V:WearOk w) {q:Nat} (hq:q<w.Batches.length) {x:Int} (h:inR (ba w q).Life x):0≤x∧x≤1000000:=by
 have:=(V.ba q hq).1.life
 unfold inR ba at h
 omega
theorem zpF {w:Wear} {known m x:Int} (h:0≤x∧x≤1000000):OkBy w known m [] x:=⟨h,fun s hs=>(by cases hs),fun s hs=>(by cases hs),fun s hs=>(by cases hs)⟩
theorem zph {w:Wear} (V:WearOk w) {i q:Nat} (hi:i<w.Mantles.length) (hq:q<w.Batches.length):bat w i=(q:Int)↔(mt w i).Batch=(ba w q).Id:=by
 have hb:=zql V hi
 have e:=zl0 (w:=w) (id:=(mt w i).Batch) hb.1
 constructor
 · intro h
   rw [show zcI w (mt w i).Batch=(q:Int) from h] at e
   exact e.symm
 · intro h
   have:=zqd V (i:=(bat w i).toNat) (by omega) hq (e.trans h)
   omega
def zle (w:Wear) (known:Int) (S:Nat→List mantle_sight) (q:Nat) (x:Int):Prop:=inR (ba w q).Life x∧∀ i,i<w.Mantles.length→bat w i=(q:Int)→OkBy w known i (S i) x
theorem zm0 {w:Wear} (V:WearOk w) {fuel:Nat} (hf:1000≤fuel) {known:Int} {L:List Look} (hL:ToldL known L) {q:Nat} (hq:q<w.Batches.length) :
 Wp (zbY fuel w (ba w q) ⟨L,known⟩) (fun r=>∀ x,inR r x↔zle w known (sights w known L) q x):=by
 have nm:=V.nm
 unfold zbY
 refine ziY w.Mantles.length (by omega) (fun i s=>∀ x,inR s x↔inR (ba w q).Life x∧∀ j,j<i→bat w j=(q:Int)→OkBy w known j (sights w known L j) x) (fun x=>⟨fun h=>⟨h,fun j hj=>absurd hj (Nat.not_lt_zero _)⟩,fun h=>h.1⟩) (fun i s K hi hI hK=>?_)
 by_cases hin':¬ i<w.Mantles.length
 · have:i=w.Mantles.length:=by omega
   subst this
   exact zaR (by simp [-List.getD_eq_getElem?_getD]) (zap hI)
 have hin:=Classical.not_not.1 hin'
 refine zaY (by simp [-List.getD_eq_getElem?_getD];omega) (zas (by simp only;omega) ?_)
 simp only [Int.toNat_natCast]
 have ext:∀ {x:Int},(∀ j,j<i+1→bat w j=(q:Int)→OkBy w known j (sights w known L j) x)↔(∀ j,j<i→bat w j=(q:Int)→OkBy w known j (sights w known L j) x)∧(bat w i=(q:Int)→OkBy w known i (sights w known L i) x):=fun {x}=>
  ⟨fun h=>⟨fun j hj=>h j (by omega),h i (by omega)⟩,fun h j hj=>by
   by_cases e:j=i
   · rw [e];exact h.2
   · exact h.1 j (by omega)⟩
 refine zbu (fun hb=>?_) (fun hb=>zaq (by omega) (hK _ hin (fun x=>?_)))
 · simp only [Bool.and_eq_true,decide_eq_true_eq] at hb
   have hbi:bat w i=(q:Int):=(zph V hin hq).2 hb.1
   refine wp_bind (zoh V hf hL hin) (fun r hr=>?_)
   refine zch (fun hlt=>zap (fun x=>⟨fun h=>?_,fun h=>?_⟩)) (fun hge=>zaq (by omega) (hK _ hin (fun x=>?_)))
   · unfold inR at h;omega
   · exact (hr x).2 (h.2 i hin hbi)
   · rw [show inR (⟨max s.Lo r.Lo,min s.Hi r.Hi⟩:Range) x↔inR s x∧inR r x from zny,hI,hr,ext]
     exact ⟨fun h=>⟨h.1.1,h.1.2,fun _=>h.2⟩,fun h=>⟨⟨h.1,h.2.1⟩,h.2.2 hbi⟩⟩
 · rw [hI,ext]
   refine ⟨fun h=>⟨h.1,h.2,fun hbi=>?_⟩,fun h=>⟨h.1,h.2.1⟩⟩
   have:sights w known L i=[]:=by
    rw [List.eq_nil_iff_forall_not_mem]
    intro s hs
    obtain ⟨lamp,hfi⟩:=zh0 hs
    have h1:=(zph V hin hq).1 hbi
    have h2:=hfi.cand.2.2
    rw [Bool.and_eq_false_iff,decide_eq_false_iff_not] at hb
    rcases hb with hb|hb
    · exact hb h1
    · exact absurd (h2.symm.trans hb) (by decide)
   rw [this]
   exact zpF (zqC V hq h.1)
theorem zfj {w:Wear} (V:WearOk w) {fuel:Nat} (hf:1000≤fuel) {known:Int} {L:List Look} (hL:ToldL known L):Wp (za1 fuel w ⟨L,known⟩) (fun r=>r=true↔zb0 w known (sights w known L)):=by
 have nb:=V.nb
 unfold za1
 refine zfZ (n:=w.Batches.length) (by omega) (fun i=>∃ x,zle w known (sights w known L) i x) (fun i K hi hI hK=>?_) (fun h K=>zaR (by simp [-List.getD_eq_getElem?_getD]) (zap ⟨fun _=>h,fun _=>rfl⟩))
 refine zaY (by simp [-List.getD_eq_getElem?_getD];omega) (zas (by omega) ?_)
 simp only [Int.toNat_natCast]
 refine wp_bind (zm0 V hf hL hi) (fun r hr=>?_)
 refine zch (fun hlt=>zap ⟨fun h=>(by cases h),fun h=>?_⟩) (fun hge=>zaq (by omega) (hK ⟨r.Lo,(hr _).1 ⟨Int.le_refl _,by omega⟩⟩))
 obtain ⟨x,hx⟩:=h i hi
 have:=(hr x).2 hx
 unfold inR at this
 omega
end Go.Sp
end
/- Plain laws, mantle: states by both; MantleAges. No program in sight. -/
section
set_option linter.all false
namespace Go.Sp
open Go.Av
set_option maxRecDepth 100000
theorem zmi {w:Wear} (V:WearOk w) {fuel:Nat} (hf:1000≤fuel) {id:Int}:Wp (zbU fuel w id) (fun r=>(0≤zcI w id∧r=(ba w (zcI w id).toNat,true))∨(zcI w id<0∧r.2=false)):=by
 have nb:=V.nb
 unfold zbU
 refine zfZ (n:=w.Batches.length) (by omega) (fun i=>(ba w i).Id≠id) (fun i K hi _ hK=>?_) (fun h K=>zaR (by simp [-List.getD_eq_getElem?_getD]) (zap (.inr ⟨zft.2 (fun ⟨j,hj,e⟩=>h j hj e),rfl⟩)))
 refine zaY (by simp [-List.getD_eq_getElem?_getD];omega) (zas (by omega) ?_)
 simp only [Int.toNat_natCast]
 refine zch (fun h=>zas (by omega) (zap (.inl ?_))) (fun h=>zas (by unfold inI;omega) (hK h))
 have h0:0≤zcI w id:=by
  rcases Int.lt_or_le (zcI w id) 0 with h1|h1
  · exact absurd ⟨i,hi,h⟩ (zft.1 h1)
  · exact h1
 have h1:=zl0 h0
 have h2:=zgD w id
 have:(zcI w id).toNat=i:=zqd V (by omega) hi (h1.trans h.symm)
 rw [this]
 exact ⟨h0,rfl⟩
end Go.Sp
end
/- Plain laws, mantle: State, Age, Fitted by both; MantleAges. No program in sight. -/
section
set_option linter.all false
namespace Go.Sp
open Go.Av
set_option maxRecDepth 100000
def zme (w:Wear) (known:Int) (m:Nat) (l:Look):Bool:=decide (fit w l.Lamp l.Night known=(m:Int)) && zau l.Known l.Until known
def toS (l:Look):mantle_sight:=⟨l.Night,l.Bad⟩
theorem zj6 {w:Wear} {known:Int} {l:List Look} {m:Nat}:∀ {n:Nat},n≤l.length→zci w known l m n=((l.take n).filter (zme w known m)).map toS
 | 0,_=>rfl
 | n+1,h=>by
  rw [zds (by omega),List.filter_append,List.map_append,← zj6 (by omega)]
  rw [show zci w known l m (n+1)=if fit w (lk l n).Lamp (lk l n).Night known=(m:Int)∧zau (lk l n).Known (lk l n).Until known=true then zci w known l m n++[⟨(lk l n).Night,(lk l n).Bad⟩] else zci w known l m n from rfl]
  by_cases hc:fit w (lk l n).Lamp (lk l n).Night known=(m:Int)∧zau (lk l n).Known (lk l n).Until known=true
  · have:zme w known m (l.getD n default)=true:=by unfold zme;rw [Bool.and_eq_true,decide_eq_true_eq];exact hc
    rw [if_pos hc];simp [-List.getD_eq_getElem?_getD,this,toS,lk]
  · have:zme w known m (l.getD n default)=false:=by
     rw [← Bool.not_eq_true];unfold zme;rw [Bool.and_eq_true,decide_eq_true_eq];exact hc
    rw [if_neg hc];simp [-List.getD_eq_getElem?_getD,this]
theorem zhy (w:Wear) (known:Int) (l:List Look) (m:Nat):sights w known l m=(l.filter (zme w known m)).map toS:=by
 unfold sights
 rw [zj6 (Nat.le_refl _),List.take_length]
theorem zef (w:Wear) (known:Int):sights w known (zcS w known)=sights w known w.Looks:=by
 funext m
 rw [zhy,zhy]
 unfold zcS
 rw [List.filter_filter]
 congr 1
 refine List.filter_congr (fun l _=>?_)
 unfold zme tells
 rw [Bool.eq_iff_iff]
 simp only [Bool.and_eq_true,decide_eq_true_eq]
 constructor
 · rintro ⟨h1,_⟩;exact h1
 · rintro ⟨h1,h2⟩;exact ⟨⟨h1,h2⟩,by omega,h2⟩
theorem zkF {w:Wear} (V:WearOk w):w.Looks.length≤1000∧∀ x∈w.Looks,0≤x.Night:=⟨by have:=V.nl;omega,fun x hx=>(look_ok V hx).night.1⟩
abbrev allS (w:Wear) (known:Int):Nat→List mantle_sight:=sights w known w.Looks
theorem zpq {w:Wear} (V:WearOk w) {fuel:Nat} (hf:1000≤fuel) (known:Int):Wp (zdG fuel w known) (fun r=>(zb0 w known (allS w known)∧r.2=0∧Hung w known (allS w known) r.1)∨(¬ zb0 w known (allS w known)∧r.2=65)):=by
 unfold zdG
 refine wp_bind (zmv V hf (zkF V).1 (zkF V).2 known) (fun c hc=>wp_bind (zia hc) (fun b hb=>?_))
 refine zbu (fun h=>zap (.inr ⟨fun k=>?_,rfl⟩)) (fun h=>zap (.inl ⟨hb.1 (by simpa [-List.getD_eq_getElem?_getD] using h),rfl,hc⟩))
 rw [hb.2 k] at h;cases h
theorem zkw {w:Wear} (V:WearOk w) {fuel:Nat} (hf:1000≤fuel) (known:Int):zbB fuel w known=some ⟨zcS w known,known⟩:=by
 unfold zbB
 exact Wp.eq (zat (zjc V hf known) (zap rfl))
end Go.Sp
end
/- Plain laws, mantle: Life, Sound, Clash by both. No program in sight. -/
section
set_option linter.all false
namespace Go.Sp
open Go.Av
set_option maxRecDepth 100000
theorem zol {a b:Range} (h:∀ x,inR a x↔inR b x) (ha:a.Lo≤a.Hi):a=b:=by
 have h1:=(h a.Lo).1 ⟨Int.le_refl _,ha⟩
 have h2:=(h a.Hi).1 ⟨ha,Int.le_refl _⟩
 unfold inR at h1 h2
 have h3:=(h b.Lo).2 ⟨Int.le_refl _,by omega⟩
 have h4:=(h b.Hi).2 ⟨by omega,Int.le_refl _⟩
 unfold inR at h3 h4
 obtain ⟨x,y⟩:=a
 obtain ⟨u,v⟩:=b
 simp only at *
 have e1:x=u:=by omega
 have e2:y=v:=by omega
 rw [e1,e2]
theorem ziV {w:Wear} (V:WearOk w) {fuel:Nat} (hf:100<fuel) {a b:Int} (h:za5 a∧za5 b):zaQ fuel w ⟨a,b⟩=some 0:=by
 unfold zaQ
 refine Wp.eq (zat (zlp hf V) (zaR (by simp [-List.getD_eq_getElem?_getD]) (zaR ?_ (zap rfl))))
 simp [-List.getD_eq_getElem?_getD,zf7.2 h.1,zf7.2 h.2]
theorem zhV {w:Wear} (V:WearOk w) {fuel:Nat} (hf:100<fuel) {a b:Int} (h:¬ (za5 a∧za5 b)):zaQ fuel w ⟨a,b⟩=some 6:=by
 unfold zaQ
 refine Wp.eq (zat (zlp hf V) (zaR (by simp [-List.getD_eq_getElem?_getD]) (zaY ?_ (zap rfl))))
 simp only [Bool.or_eq_true,Bool.not_eq_true',← Bool.not_eq_true,zf7]
 by_cases h1:za5 a
 · exact .inr (fun h2=>h ⟨h1,h2⟩)
 · exact .inl h1
theorem zhU {w:Wear} (V:¬ WearOk w) {fuel:Nat} (hf:100<fuel) (n:Arr2 Int):zaQ fuel w n=some 64:=by
 unfold zaQ
 exact Wp.eq (zat (znG hf V) (zaY (by simp [-List.getD_eq_getElem?_getD]) (zap rfl)))
theorem zna {known:Int} (h:za5 known):∀ n∈([known]:List Int),za5 n:=fun n hn=>by rw [List.mem_singleton] at hn;rw [hn];exact h
theorem zkC {known:Int} (h:¬ za5 known):¬ ∀ n∈([known]:List Int),za5 n:=fun k=>h (k known (by simp [-List.getD_eq_getElem?_getD]))
structure LifeV (w:Wear) (known:Int) (id:Int) (r:Range×Int):Prop where
 inv:¬ WearOk w→r=(⟨0,0⟩,64)
 day:WearOk w→¬ za5 known→r=(⟨0,0⟩,6)
 none:WearOk w→za5 known→zcI w id<0→r=(⟨0,0⟩,3)
 fals:WearOk w→za5 known→0≤zcI w id→¬ zb0 w known (allS w known)→r=(⟨0,0⟩,65)
 ok:WearOk w→za5 known→0≤zcI w id→zb0 w known (allS w known)→r.2=0∧∀ x,inR r.1 x↔zle w known (allS w known) (zcI w id).toNat x
theorem LifeV.uniq {w:Wear} {known id:Int} {r r':Range×Int} (h:LifeV w known id r) (h':LifeV w known id r'):r=r':=by
 by_cases V:WearOk w
 · by_cases hn:za5 known
   · by_cases hb:0≤zcI w id
     · by_cases hs:zb0 w known (allS w known)
       · obtain ⟨e1,a1⟩:=h.ok V hn hb hs
         obtain ⟨e2,a2⟩:=h'.ok V hn hb hs
         obtain ⟨x,hx⟩:=hs (zcI w id).toNat (by have:=zgD w id;omega)
         have hx':=(a1 x).2 hx
         unfold inR at hx'
         exact Prod.ext (zol (fun y=>(a1 y).trans (a2 y).symm) (by omega)) (e1.trans e2.symm)
       · rw [h.fals V hn hb hs,h'.fals V hn hb hs]
     · rw [h.none V hn (by omega),h'.none V hn (by omega)]
   · rw [h.day V hn,h'.day V hn]
 · rw [h.inv V,h'.inv V]
theorem zpH {w:Wear} (hw:Fits w) {fuel:Nat} (hf:1000≤fuel) (id known:Int):Wp (zd2 fuel w id known) (LifeV w known id):=by
 unfold zd2
 by_cases V:¬ WearOk w
 · exact zat (zgN hw V _) (zaY (by simp [-List.getD_eq_getElem?_getD]) (zap ⟨fun _=>rfl,fun k=>absurd k V,fun k=>absurd k V,fun k=>absurd k V,fun k=>absurd k V⟩))
 have V:=Classical.not_not.1 V
 by_cases hn:za5 known
 · refine zat (zhE V (zna hn)) (zaR (by simp [-List.getD_eq_getElem?_getD]) (zat (zin w id) ?_))
   refine zch (fun hb=>zap ⟨fun k=>absurd V k,fun _ k=>absurd hn k,fun _ _ _=>rfl,fun _ _ k=>by omega,fun _ _ k=>by omega⟩) (fun hb=>?_)
   refine wp_bind (zpq V hf known) (fun r hr=>?_)
   rcases hr with ⟨k1,k2,k3⟩|⟨k1,k2⟩
   · refine zir (fun h=>absurd k2 h) (fun _=>?_)
     have hlt:=zgD w id
     refine zas (by rw [k3.len];omega) (zap ⟨fun k=>absurd V k,fun _ k=>absurd hn k,fun _ _ k=>by omega,fun _ _ _ k=>absurd k1 k,fun _ _ _ _=>⟨rfl,fun x=>?_⟩⟩)
     rw [k3.lives _ (by omega)]
     rfl
   · refine zir (fun _=>zap ⟨fun k=>absurd V k,fun _ k=>absurd hn k,fun _ _ k=>by omega,fun _ _ _ _=>by rw [k2],fun _ _ _ k=>absurd k k1⟩) (fun h=>by omega)
 · refine zat (zgO V (zkC hn)) (zaY (by simp [-List.getD_eq_getElem?_getD]) (zap ⟨fun k=>absurd V k,fun _ _=>rfl,fun _ k=>absurd k hn,fun _ k=>absurd k hn,fun _ k=>absurd k hn⟩))
theorem zpA {w:Wear} {fuel:Nat} (hf:1000≤fuel) (id known:Int):Wp (zcr fuel w id known) (LifeV w known id):=by
 unfold zcr
 by_cases V:¬ WearOk w
 · exact zat (zhU V (by omega) _) (zaY (by simp [-List.getD_eq_getElem?_getD]) (zap ⟨fun _=>rfl,fun k=>absurd k V,fun k=>absurd k V,fun k=>absurd k V,fun k=>absurd k V⟩))
 have V:=Classical.not_not.1 V
 by_cases hn:za5 known
 · refine zat (ziV V (by omega) ⟨hn,hn⟩) (zaR (by simp [-List.getD_eq_getElem?_getD]) (wp_bind (zmi V hf (id:=id)) (fun y4 h4=>?_)))
   rcases h4 with ⟨hb,rfl⟩|⟨hb,h4⟩
   · refine zaR (by simp [-List.getD_eq_getElem?_getD]) (zat (zkw V hf known) (wp_bind (zfj V hf (zdV V known)) (fun b hb9=>?_)))
     rw [zef] at hb9
     refine zbu (fun k=>zap ⟨fun k=>absurd V k,fun _ k=>absurd hn k,fun _ _ k=>by omega,fun _ _ _ _=>rfl,fun _ _ _ k2=>by rw [hb9.2 k2] at k;cases k⟩) (fun k=>?_)
     have hs:=hb9.1 (by simpa [-List.getD_eq_getElem?_getD] using k)
     refine zat (zkw V hf known) (wp_bind (zm0 V hf (zdV V known) (q:=(zcI w id).toNat) (by have:=zgD w id;omega)) (fun r hr=>zap ⟨fun k=>absurd V k,fun _ k=>absurd hn k,fun _ _ k=>by omega,fun _ _ _ k=>absurd hs k,fun _ _ _ _=>⟨rfl,fun x=>?_⟩⟩))
     rw [zef] at hr
     exact hr x
   · exact zaY (by rw [h4];rfl) (zap ⟨fun k=>absurd V k,fun _ k=>absurd hn k,fun _ _ _=>rfl,fun _ _ k=>by omega,fun _ _ k=>by omega⟩)
 · refine zat (zhV V (by omega) (fun k=>hn k.1)) (zaY (by simp [-List.getD_eq_getElem?_getD]) (zap ⟨fun k=>absurd V k,fun _ _=>rfl,fun _ k=>absurd k hn,fun _ k=>absurd k hn,fun _ k=>absurd k hn⟩))
structure SoundV (w:Wear) (known:Int) (r:Bool×Int):Prop where
 inv:¬ WearOk w→r=(false,64)
 day:WearOk w→¬ za5 known→r=(false,6)
 ok:WearOk w→za5 known→r.2=0∧(r.1=true↔zb0 w known (allS w known))
theorem SoundV.uniq {w:Wear} {known:Int} {r r':Bool×Int} (h:SoundV w known r) (h':SoundV w known r'):r=r':=by
 by_cases V:WearOk w
 · by_cases hn:za5 known
   · obtain ⟨e1,a1⟩:=h.ok V hn
     obtain ⟨e2,a2⟩:=h'.ok V hn
     exact Prod.ext (by rw [Bool.eq_iff_iff,a1,a2]) (e1.trans e2.symm)
   · rw [h.day V hn,h'.day V hn]
 · rw [h.inv V,h'.inv V]
theorem zoC {w:Wear} (hw:Fits w) {fuel:Nat} (hf:1000≤fuel) (known:Int):Wp (zel fuel w known) (SoundV w known):=by
 unfold zel
 by_cases V:¬ WearOk w
 · exact zat (zgN hw V _) (zaY (by simp [-List.getD_eq_getElem?_getD]) (zap ⟨fun _=>rfl,fun k=>absurd k V,fun k=>absurd k V⟩))
 have V:=Classical.not_not.1 V
 by_cases hn:za5 known
 · refine zat (zhE V (zna hn)) (zaR (by simp [-List.getD_eq_getElem?_getD]) (wp_bind (zmv V hf (zkF V).1 (zkF V).2 known) (fun c hc=>wp_bind (zia hc) (fun b hb=>zap ⟨fun k=>absurd V k,fun _ k=>absurd hn k,fun _ _=>⟨rfl,hb⟩⟩))))
 · refine zat (zgO V (zkC hn)) (zaY (by simp [-List.getD_eq_getElem?_getD]) (zap ⟨fun k=>absurd V k,fun _ _=>rfl,fun _ k=>absurd k hn⟩))
theorem zon {w:Wear} {fuel:Nat} (hf:1000≤fuel) (known:Int):Wp (zcc fuel w known) (SoundV w known):=by
 unfold zcc
 by_cases V:¬ WearOk w
 · exact zat (zhU V (by omega) _) (zaY (by simp [-List.getD_eq_getElem?_getD]) (zap ⟨fun _=>rfl,fun k=>absurd k V,fun k=>absurd k V⟩))
 have V:=Classical.not_not.1 V
 by_cases hn:za5 known
 · refine zat (ziV V (by omega) ⟨hn,hn⟩) (zaR (by simp [-List.getD_eq_getElem?_getD]) (zat (zkw V hf known) (wp_bind (zfj V hf (zdV V known)) (fun b hb=>zap ⟨fun k=>absurd V k,fun _ k=>absurd hn k,fun _ _=>⟨rfl,?_⟩⟩))))
   rw [zef] at hb
   exact hb
 · refine zat (zhV V (by omega) (fun k=>hn k.1)) (zaY (by simp [-List.getD_eq_getElem?_getD]) (zap ⟨fun k=>absurd V k,fun _ _=>rfl,fun _ k=>absurd k hn⟩))
theorem zi6 {w:Wear} (V:WearOk w) {fuel:Nat} (hf:1000≤fuel) (known:Int):zcN fuel w known=some (zcS w known):=by
 have nl:=V.nl
 unfold zcN zbb
 refine Wp.eq (wp_bind (Q:=fun y=>y=w.Looks) (zcW (by simp [-List.getD_eq_getElem?_getD];omega) (zap (by simp [-List.getD_eq_getElem?_getD]))) (fun y hy=>?_))
 subst hy
 have hp:∀ x,zcj x known w=some (!tells w known x):=fun x=>by
  unfold zcj tells
  rw [zjv]
  cases zau x.Known x.Until known
  · show some _=some _
    simp [-List.getD_eq_getElem?_getD]
  · show some _=some _
    congr 1
    rw [Bool.eq_iff_iff]
    simp [-List.getD_eq_getElem?_getD]
 have e:=zk7 (T:=Look) (⟨0,0,0,false,0,0⟩:Look) (q:=fun x=>!tells w known x) hp w.Looks fuel (by omega) (by omega)
 refine zat (show zcg fuel w.Looks _=_ from e) (zap ?_)
 unfold zcS
 congr 1
 funext x
 simp [-List.getD_eq_getElem?_getD]
def without (l:List Look) (i:Nat):List Look:=l.take i++l.drop (i+1)
theorem ziZ {l:List Look} {i:Nat} (h:i<l.length):(without l i).length=l.length - 1:=by simp [-List.getD_eq_getElem?_getD,without];omega
theorem zdy (l:List Look) (i:Nat):(without l i).Sublist l:=zqN l i
theorem zoG {l:List Look} {i:Nat} (h:i<l.length) (hl:l.length≤1000):zd1 l (i:Int)=some (without l i):=by
 unfold zd1 zbb zcY
 refine Wp.eq (wp_bind (Q:=fun y=>y=l) (zcW (by simp [-List.getD_eq_getElem?_getD];omega) (zap (by simp [-List.getD_eq_getElem?_getD]))) (fun y hy=>?_))
 subst hy
 have e:((i:Int)+1).toNat=i+1:=by omega
 refine zaq (by omega) (wp_bind (Q:=fun z=>z=without y i) ?_ (fun z hz=>zap hz))
 refine zas (by omega) (zaR (by simp [-List.getD_eq_getElem?_getD];omega) (zas (by omega) (zas (by omega) ?_)))
 rw [e,Int.toNat_natCast]
 refine zas (by omega) (zas (by simp [-List.getD_eq_getElem?_getD];omega) (zap rfl))
theorem znf {l:List Look} {i:Nat} (h:i<l.length) (hl:l.length≤1000):zbQ l (i:Int)=some (without l i):=by
 unfold zbQ
 have e:((i:Int)+1).toNat=i+1:=by omega
 rw [e,Int.toNat_natCast]
 refine Wp.eq (zas (by omega) (zcW (by simp [-List.getD_eq_getElem?_getD];omega) (zaq (by omega) (zas (by omega) (zcW (by simp [-List.getD_eq_getElem?_getD];omega) (zap ?_))))))
 simp [-List.getD_eq_getElem?_getD,without]
theorem ToldL.sub {known:Int} {L T:List Look} (h:ToldL known L) (hs:T.Sublist L):ToldL known T:=⟨Nat.le_trans hs.length_le h.few,fun l hl=>h.night l (hs.mem hl),fun l hl=>h.cnt l (hs.mem hl)⟩
theorem ze2 {w:Wear} (V:WearOk w) {fuel:Nat} (hf:1000≤fuel) {known:Int} {L:List Look} (hL:ToldL known L) {R:Type} {k:Bool→Option R} {P:R→Prop} (hk:∀ b,(b=true↔zb0 w known (sights w known L))→Wp (k b) P) :
 Wp (zao (zbO fuel w L known) fun c=>zao (zaD c) k) P:=
 wp_bind (zmv V hf (by have:=hL.few;omega) hL.night known) (fun c hc=>wp_bind (zia hc) hk)
open Classical in
noncomputable def clashF (w:Wear) (known:Int):Nat→List Look→List Look
 | 0,l=>l
 | n+1,l=>if zb0 w known (sights w known (without l n)) then clashF w known n l else clashF w known n (without l n)
theorem zmN {w:Wear} {known:Int} {n:Nat} {l:List Look} (h:zb0 w known (sights w known (without l n))):clashF w known (n+1) l=clashF w known n l:=if_pos h
theorem zmO {w:Wear} {known:Int} {n:Nat} {l:List Look} (h:¬ zb0 w known (sights w known (without l n))):clashF w known (n+1) l=clashF w known n (without l n):=if_neg h
structure ClashV (w:Wear) (known:Int) (r:List Int×Int):Prop where
 inv:¬ WearOk w→r=([],64)
 day:WearOk w→¬ za5 known→r=([],6)
 none:WearOk w→za5 known→zb0 w known (allS w known)→r=([],3)
 ok:WearOk w→za5 known→¬ zb0 w known (allS w known)→r=((clashF w known (zcS w known).length (zcS w known)).map (·.Source),0)
theorem ClashV.uniq {w:Wear} {known:Int} {r r':List Int×Int} (h:ClashV w known r) (h':ClashV w known r'):r=r':=by
 by_cases V:WearOk w
 · by_cases hn:za5 known
   · by_cases hs:zb0 w known (allS w known)
     · rw [h.none V hn hs,h'.none V hn hs]
     · rw [h.ok V hn hs,h'.ok V hn hs]
   · rw [h.day V hn,h'.day V hn]
 · rw [h.inv V,h'.inv V]
theorem zoD {w:Wear} (hw:Fits w) {fuel:Nat} (hf:1000≤fuel) (known:Int):Wp (zdH fuel w known) (ClashV w known):=by
 unfold zdH
 by_cases V:¬ WearOk w
 · exact zat (zgN hw V _) (zaY (by simp [-List.getD_eq_getElem?_getD]) (zap ⟨fun _=>rfl,fun k=>absurd k V,fun k=>absurd k V,fun k=>absurd k V⟩))
 have V:=Classical.not_not.1 V
 by_cases hn:za5 known
 · have hT:=zdV V known
   refine zat (zhE V (zna hn)) (zaR (by simp [-List.getD_eq_getElem?_getD]) (zat (zi6 V hf known) (ze2 V hf hT (fun b hb=>?_))))
   rw [zef] at hb
   refine zbu (fun k=>zap ⟨fun k=>absurd V k,fun _ k=>absurd hn k,fun _ _ _=>rfl,fun _ _ k2=>absurd (hb.1 k) k2⟩) (fun k=>?_)
   have hs:¬ zb0 w known (allS w known):=fun k2=>by rw [hb.2 k2] at k;cases k
   have hfew:(zcS w known).length≤60:=Nat.le_trans (List.length_filter_le _ _) V.nl
   refine zaq (by omega) ?_
   refine wp_loop (fun s=>∃ n:Nat,s.1=(n:Int) - 1∧n≤s.2.length∧s.2.Sublist (zcS w known)∧clashF w known n s.2=clashF w known (zcS w known).length (zcS w known)) (fun s=>(s.1+1).toNat) (by simp only;omega) ⟨(zcS w known).length,rfl,Nat.le_refl _,List.Sublist.refl _,rfl⟩ (fun s K hI hK=>?_)
   obtain ⟨x,l⟩:=s
   obtain ⟨n,h1,h2,h3,h4⟩:=hI
   simp only at h1 h2 h3 h4 hK ⊢
   subst h1
   have hl:=h3.length_le
   cases n with
   | zero=>
    refine zaR (by simp [-List.getD_eq_getElem?_getD]) ?_
    refine zd9 (fun i s=>s=(l.take i).map (·.Source)) rfl (fun i s K2 hi hI hK2=>zcW (by rw [hI];simp [-List.getD_eq_getElem?_getD];omega) (hK2 _ ?_)) (fun s hs2=>zap ⟨fun k=>absurd V k,fun _ k=>absurd hn k,fun _ _ k=>absurd k hs,fun _ _ _=>?_⟩)
    · rw [zds hi,List.map_append,hI];rfl
    · rw [hs2,List.take_length,← h4];rfl
   | succ n=>
    have e:((n+1:Nat):Int) - 1=(n:Int):=by omega
    rw [e] at hK ⊢
    refine zaY (by simp [-List.getD_eq_getElem?_getD]) (zat (zoG (by omega) (by omega)) (ze2 V hf (hT.sub ((zdy l n).trans h3)) (fun b2 hb2=>?_)))
    refine zbu (fun k2=>zaq (by omega) (hK _ ⟨n,rfl,?_,(zdy l n).trans h3,?_⟩ (by simp only;omega))) (fun k2=>zaq (by omega) (hK _ ⟨n,rfl,by simp only;omega,h3,?_⟩ (by simp only;omega)))
    · simp only;rw [ziZ (by omega)];omega
    · rw [zmO (fun k3=>by rw [hb2.2 k3] at k2;cases k2)] at h4;exact h4
    · rw [zmN (hb2.1 (by simpa [-List.getD_eq_getElem?_getD] using k2))] at h4;exact h4
 · refine zat (zgO V (zkC hn)) (zaY (by simp [-List.getD_eq_getElem?_getD]) (zap ⟨fun k=>absurd V k,fun _ _=>rfl,fun _ k=>absurd k hn,fun _ k=>absurd k hn⟩))
theorem zoo {w:Wear} {fuel:Nat} (hf:1000≤fuel) (known:Int):Wp (zcd fuel w known) (ClashV w known):=by
 unfold zcd
 by_cases V:¬ WearOk w
 · exact zat (zhU V (by omega) _) (zaY (by simp [-List.getD_eq_getElem?_getD]) (zap ⟨fun _=>rfl,fun k=>absurd k V,fun k=>absurd k V,fun k=>absurd k V⟩))
 have V:=Classical.not_not.1 V
 by_cases hn:za5 known
 · have hT:=zdV V known
   refine zat (ziV V (by omega) ⟨hn,hn⟩) (zaR (by simp [-List.getD_eq_getElem?_getD]) (zat (zjc V hf known) (wp_bind (zfj V hf hT) (fun b hb=>?_))))
   rw [zef] at hb
   refine zbu (fun k=>zap ⟨fun k=>absurd V k,fun _ k=>absurd hn k,fun _ _ _=>rfl,fun _ _ k2=>absurd (hb.1 k) k2⟩) (fun k=>?_)
   have hs:¬ zb0 w known (allS w known):=fun k2=>by rw [hb.2 k2] at k;cases k
   have hfew:(zcS w known).length≤60:=Nat.le_trans (List.length_filter_le _ _) V.nl
   refine zaq (by omega) ?_
   refine wp_loop (fun s=>∃ n:Nat,s.1=(n:Int) - 1∧n≤s.2.length∧s.2.Sublist (zcS w known)∧clashF w known n s.2=clashF w known (zcS w known).length (zcS w known)) (fun s=>(s.1+1).toNat) (by simp only;omega) ⟨(zcS w known).length,rfl,Nat.le_refl _,List.Sublist.refl _,rfl⟩ (fun s K hI hK=>?_)
   obtain ⟨x,l⟩:=s
   obtain ⟨n,h1,h2,h3,h4⟩:=hI
   simp only at h1 h2 h3 h4 hK ⊢
   subst h1
   have hl:=h3.length_le
   cases n with
   | zero=>
    refine zaR (by simp [-List.getD_eq_getElem?_getD]) ?_
    refine ziY l.length (by omega) (fun i s=>s=(l.take i).map (·.Source)) rfl (fun i s K2 hi hI hK2=>?_)
    by_cases hin:i<l.length
    · refine zaY (by simp [-List.getD_eq_getElem?_getD];omega) (zas (by simp only;omega) (zcW (by rw [hI];simp [-List.getD_eq_getElem?_getD];omega) (zaq (by simp only;omega) (hK2 _ hin ?_))))
      rw [zds hin,List.map_append,hI];rfl
    · have:i=l.length:=by omega
      subst this
      refine zaR (by simp [-List.getD_eq_getElem?_getD]) (zap ⟨fun k=>absurd V k,fun _ k=>absurd hn k,fun _ _ k=>absurd k hs,fun _ _ _=>?_⟩)
      simp only
      rw [hI,List.take_length,← h4];rfl
   | succ n=>
    have e:((n+1:Nat):Int) - 1=(n:Int):=by omega
    rw [e] at hK ⊢
    refine zaY (by simp [-List.getD_eq_getElem?_getD]) (zat (znf (by omega) (by omega)) (wp_bind (zfj V hf (hT.sub ((zdy l n).trans h3))) (fun b2 hb2=>?_)))
    refine zbu (fun k2=>zaq (by omega) (hK _ ⟨n,rfl,?_,(zdy l n).trans h3,?_⟩ (by simp only;omega))) (fun k2=>zaq (by omega) (hK _ ⟨n,rfl,by simp only;omega,h3,?_⟩ (by simp only;omega)))
    · simp only;rw [ziZ (by omega)];omega
    · rw [zmO (fun k3=>by rw [hb2.2 k3] at k2;cases k2)] at h4;exact h4
    · rw [zmN (hb2.1 (by simpa [-List.getD_eq_getElem?_getD] using k2))] at h4;exact h4
 · refine zat (zhV V (by omega) (fun k=>hn k.1)) (zaY (by simp [-List.getD_eq_getElem?_getD]) (zap ⟨fun k=>absurd V k,fun _ _=>rfl,fun _ k=>absurd k hn,fun _ k=>absurd k hn⟩))
end Go.Sp
end
/- Plain laws, mantle: CheckClash by both; MantleLives. No program in sight. -/
section
set_option linter.all false
namespace Go.Sp
open Go.Av
set_option maxRecDepth 100000
structure Picks (w:Wear) (known:Int) (q:List Int) (n:Nat) (s:List Look):Prop where
 len:s.length=n
 mem:∀ j,j<n→lk s j∈zcS w known∧(lk s j).Source=q.getD j default
 ris:∀ j,0<j→j<n→q.getD (j - 1) default<q.getD j default
theorem zhc {w:Wear} (V:WearOk w) (known:Int):(zcS w known).Pairwise (fun a b=>a.Source<b.Source):=List.Pairwise.sublist List.filter_sublist V.lo.sorted
theorem ziP {w:Wear} (V:WearOk w) (known:Int):(zcS w known).length≤60:=Nat.le_trans (List.length_filter_le _ _) V.nl
theorem Picks.sorted {w:Wear} {known:Int} {q:List Int} {n:Nat} {s:List Look} (h:Picks w known q n s):s.Pairwise (fun a b=>a.Source<b.Source):=by
 refine zkp (fun l:Look=>l.Source) (fun i h0 hi=>?_)
 have hl:=h.len
 have h1:=(h.mem i (by omega)).2
 have h2:=(h.mem (i - 1) (by omega)).2
 have h3:=h.ris i h0 (by omega)
 unfold lk at h1 h2
 omega
theorem Picks.all {w:Wear} {known:Int} {q:List Int} {n:Nat} {s:List Look} (h:Picks w known q n s):∀ l∈s,l∈zcS w known:=fun l hl=>by
 obtain ⟨i,hi,e⟩:=zeZ hl
 have:=(h.mem i (by have:=h.len;omega)).1
 unfold lk at this
 rwa [e] at this
theorem Picks.few {w:Wear} (V:WearOk w) {known:Int} {q:List Int} {n:Nat} {s:List Look} (h:Picks w known q n s):n≤60:=by
 have h1:=zm9 (zli h.sorted) h.all
 have:=ziP V known
 have:=h.len
 omega
theorem Picks.told {w:Wear} (V:WearOk w) {known:Int} {q:List Int} {n:Nat} {s:List Look} (h:Picks w known q n s):ToldL known s:=
 ⟨by have:=h.few V;have:=h.len;omega,fun l hl=>(zdV V known).night l (h.all l hl),fun l hl=>(zdV V known).cnt l (h.all l hl)⟩
theorem Picks.push {w:Wear} {known:Int} {q:List Int} {n:Nat} {s:List Look} (h:Picks w known q n s) {l:Look} (hl:l∈zcS w known) (e:l.Source=q.getD n default) (hr:0<n→q.getD (n - 1) default<q.getD n default):Picks w known q (n+1) (s++[l]):=by
 refine ⟨by simp [-List.getD_eq_getElem?_getD,h.len],fun j hj=>?_,fun j h0 hj=>?_⟩
 · unfold lk
   rw [zlH,h.len]
   by_cases ej:j=n
   · rw [if_pos ej,ej];exact ⟨hl,e⟩
   · rw [if_neg ej];exact h.mem j (by omega)
 · by_cases ej:j=n
   · rw [ej];exact hr (by omega)
   · exact h.ris j h0 (by omega)
theorem Picks.uniq {w:Wear} (V:WearOk w) {known:Int} {q:List Int} {n:Nat} {s t:List Look} (h:Picks w known q n s) (h':Picks w known q n t):s=t:=by
 refine znr (by rw [h.len,h'.len]) (fun i hi=>?_)
 have hn:=h.len
 obtain ⟨a1,a2⟩:=h.mem i (by omega)
 obtain ⟨b1,b2⟩:=h'.mem i (by omega)
 exact znC (f:=fun l:Look=>l.Source) (zhc V known) a1 b1 (a2.trans b2.symm)
def CC (w:Wear) (known:Int) (q:List Int):Prop:=∃ s,Picks w known q q.length s∧¬ zb0 w known (sights w known s)∧∀ i,i<s.length→zb0 w known (sights w known (without s i))
structure CheckV (w:Wear) (known:Int) (q:List Int) (r:Int):Prop where
 inv:¬ WearOk w→r=64
 day:WearOk w→¬ za5 known→r=6
 yes:WearOk w→za5 known→CC w known q→r=0
 no:WearOk w→za5 known→¬ CC w known q→r=68
theorem CheckV.uniq {w:Wear} {known:Int} {q:List Int} {r r':Int} (h:CheckV w known q r) (h':CheckV w known q r'):r=r':=by
 by_cases V:WearOk w
 · by_cases hn:za5 known
   · by_cases hs:CC w known q
     · rw [h.yes V hn hs,h'.yes V hn hs]
     · rw [h.no V hn hs,h'.no V hn hs]
   · rw [h.day V hn,h'.day V hn]
 · rw [h.inv V,h'.inv V]
theorem filter_one {l:List Look} (hs:l.Pairwise (fun a b=>a.Source<b.Source)) (x:Int):(l.filter (fun y=>decide (y.Source=x))=[]∧∀ y∈l,y.Source≠x)∨∃ y,y∈l∧y.Source=x∧l.filter (fun y=>decide (y.Source=x))=[y]:=by
 have hs':(l.filter (fun y=>decide (y.Source=x))).Pairwise (fun a b=>a.Source<b.Source):=List.Pairwise.sublist List.filter_sublist hs
 have hm:∀ y,y∈l.filter (fun y=>decide (y.Source=x))↔y∈l∧y.Source=x:=fun y=>by rw [List.mem_filter,decide_eq_true_eq]
 match h:l.filter (fun y=>decide (y.Source=x)) with
 | []=>exact .inl ⟨h,fun y hy e=>by have:=(hm y).2 ⟨hy,e⟩;rw [h] at this;cases this⟩
 | [y]=>exact .inr ⟨y,((hm y).1 (by rw [h];simp [-List.getD_eq_getElem?_getD])).1,((hm y).1 (by rw [h];simp [-List.getD_eq_getElem?_getD])).2,h⟩
 | y::z::r=>
  exfalso
  rw [h] at hs' hm
  have h1:=(hm y).1 (by simp [-List.getD_eq_getElem?_getD])
  have h2:=(hm z).1 (by simp [-List.getD_eq_getElem?_getD])
  have:=(List.pairwise_cons.1 hs').1 z (by simp [-List.getD_eq_getElem?_getD])
  omega
theorem zjU {w:Wear} (hw:Fits w) {fuel:Nat} (hf:1000≤fuel) (known:Int) {q:List Int} (hq:q.length≤9223372036854775807):Wp (zcD fuel w known q) (CheckV w known q):=by
 unfold zcD
 by_cases V:¬ WearOk w
 · exact zat (zgN hw V _) (zaY (by simp [-List.getD_eq_getElem?_getD]) (zap ⟨fun _=>rfl,fun k=>absurd k V,fun k=>absurd k V,fun k=>absurd k V⟩))
 have V:=Classical.not_not.1 V
 by_cases hn:¬ za5 known
 · exact zat (zgO V (zkC hn)) (zaY (by simp [-List.getD_eq_getElem?_getD]) (zap ⟨fun k=>absurd V k,fun _ _=>rfl,fun _ k=>absurd k hn,fun _ k=>absurd k hn⟩))
 have hn:=Classical.not_not.1 hn
 have bad:¬ CC w known q→CheckV w known q 68:=fun h=>⟨fun k=>absurd V k,fun _ k=>absurd hn k,fun _ _ k=>absurd k h,fun _ _ _=>rfl⟩
 refine zat (zhE V (zna hn)) (zaR (by simp [-List.getD_eq_getElem?_getD]) (zat (zi6 V hf known) ?_))
 have hfew:=ziP V known
 have hsrt:=zhc V known
 refine zd9 (fun i s=>Picks w known q i s) ⟨rfl,fun j hj=>absurd hj (Nat.not_lt_zero _),fun j _ hj=>absurd hj (Nat.not_lt_zero _)⟩ (fun i s K hi hI hK=>?_) (fun s hs=>?_)
 · obtain ⟨k,k1,k2,k3,k4,_⟩:=zlh (fun l:Look=>l.Source) hsrt (q.getD i default)
   have hbs:=bsF_eq (fuel:=fuel) (zcS w known) (q.getD i default) (p2:=fun x0 x1=>some (zba x0 x1)) (c:=fun t=>zba t (q.getD i default)) (fun t=>rfl) (k:=k) k1 (fun j hj=>znx.2 (k2 j hj)) (fun j hj hj'=>by
    have:=k3 j hj hj'
    have e:=znx (a:=((zcS w known).getD j default).Source) (b:=q.getD i default)
    show 0≤za0 _ _
    omega) (by omega) (by omega)
   refine zat (show zbw fuel (zcS w known) (q.getD i default) _=_ from hbs) ?_
   have e0:decide (zba ((zcS w known).getD k default) (q.getD i default)=0)=decide (((zcS w known).getD k default).Source=q.getD i default):=by
    rw [decide_eq_decide];exact zpd
   simp only [e0]
   refine zas (fun _=>by unfold inI;omega) (zas (fun h=>by simp [-List.getD_eq_getElem?_getD] at h;omega) ?_)
   have e:(((i:Int) - 1)).toNat=i - 1:=by omega
   rw [e]
   refine zbu (fun hb=>zap (bad (fun ⟨s',h1,_⟩=>?_))) (fun hb=>?_)
   · obtain ⟨h2,h3⟩:=h1.mem i hi
     have hfound:k<(zcS w known).length∧((zcS w known).getD k default).Source=q.getD i default:=by
      refine Classical.byContradiction (fun h=>?_)
      exact k4.2 h _ h2 h3
     have h4:=h1.ris i
     simp only [hfound.1,hfound.2,decide_true,Bool.and_self,Bool.not_true,Bool.false_or,Bool.and_eq_true,decide_eq_true_eq] at hb
     have:=h4 (by omega) hi
     omega
   · simp only [Bool.or_eq_false_iff,Bool.not_eq_false',Bool.and_eq_true,decide_eq_true_eq,Bool.and_eq_false_iff,decide_eq_false_iff_not] at hb
     have hfw:=hI.few V
     have hln:=hI.len
     refine zas (by omega) (zcW (by simp [-List.getD_eq_getElem?_getD];omega) (hK _ ?_))
     rw [Int.toNat_natCast]
     exact hI.push (zcz hb.1.1) hb.1.2 (fun h0=>by omega)
 · have hT:=hs.told V
   have hfw:=hs.few V
   have hln:=hs.len
   refine ze2 V hf hT (fun b hb=>?_)
   refine zbu (fun k=>zap (bad (fun ⟨s',h1,h2,_⟩=>?_))) (fun k=>?_)
   · rw [h1.uniq V hs] at h2;exact h2 (hb.1 k)
   have hns:¬ zb0 w known (sights w known s):=fun k2=>by rw [hb.2 k2] at k;cases k
   refine ziX (fun i=>zb0 w known (sights w known (without s i))) (fun i K hi _ hK=>?_) (fun h=>zap ⟨fun k=>absurd V k,fun _ k=>absurd hn k,fun _ _ _=>rfl,fun _ _ k=>absurd ⟨s,hs,hns,h⟩ k⟩)
   refine zat (zoG hi (by omega)) (ze2 V hf (hT.sub (zdy s i)) (fun b2 hb2=>?_))
   refine zbu (fun k2=>zap (bad (fun ⟨s',h1,_,h3⟩=>?_))) (fun k2=>hK (hb2.1 (by simpa [-List.getD_eq_getElem?_getD] using k2)))
   rw [h1.uniq V hs] at h3
   have:=hb2.2 (h3 i hi)
   rw [this] at k2;cases k2
theorem zjR {w:Wear} {fuel:Nat} (hf:1000≤fuel) (known:Int) {q:List Int} (hq:q.length≤9223372036854775807):Wp (zbr fuel w known q) (CheckV w known q):=by
 unfold zbr
 by_cases V:¬ WearOk w
 · exact zat (zhU V (by omega) _) (zaY (by simp [-List.getD_eq_getElem?_getD]) (zap ⟨fun _=>rfl,fun k=>absurd k V,fun k=>absurd k V,fun k=>absurd k V⟩))
 have V:=Classical.not_not.1 V
 by_cases hn:¬ za5 known
 · exact zat (zhV V (by omega) (fun k=>hn k.1)) (zaY (by simp [-List.getD_eq_getElem?_getD]) (zap ⟨fun k=>absurd V k,fun _ _=>rfl,fun _ k=>absurd k hn,fun _ k=>absurd k hn⟩))
 have hn:=Classical.not_not.1 hn
 have bad:¬ CC w known q→CheckV w known q 68:=fun h=>⟨fun k=>absurd V k,fun _ k=>absurd hn k,fun _ _ k=>absurd k h,fun _ _ _=>rfl⟩
 refine zat (ziV V (by omega) ⟨hn,hn⟩) (zaR (by simp [-List.getD_eq_getElem?_getD]) (zat (zjc V hf known) ?_))
 have hfew:=ziP V known
 have hsrt:=zhc V known
 refine wp_loop (fun s=>∃ i:Nat,s.1=(i:Int)∧i≤q.length∧Picks w known q i s.2) (fun s=>100 - s.1.toNat) (by simp [-List.getD_eq_getElem?_getD];omega) ⟨0,rfl,Nat.zero_le _,rfl,fun j hj=>absurd hj (Nat.not_lt_zero _),fun j _ hj=>absurd hj (Nat.not_lt_zero _)⟩ (fun s K hI hK=>?_)
 obtain ⟨x,s⟩:=s
 obtain ⟨i,h1,h2,hs⟩:=hI
 simp only at h1 hs hK ⊢
 subst h1
 have hT:=hs.told V
 have hfw:=hs.few V
 have hln:=hs.len
 by_cases hin:i<q.length
 · refine zaY (by simp [-List.getD_eq_getElem?_getD];omega) (zas (fun _=>by unfold inI;omega) (zas (fun h=>by simp [-List.getD_eq_getElem?_getD] at h;omega) (zas (fun _=>by omega) ?_)))
   have e:(((i:Int) - 1)).toNat=i - 1:=by omega
   rw [e,Int.toNat_natCast]
   refine zbu (fun hb=>zap (bad (fun ⟨s',h1,_⟩=>?_))) (fun hb=>?_)
   · simp only [Bool.and_eq_true,decide_eq_true_eq] at hb
     have:=h1.ris i (by omega) hin
     omega
   simp only [Bool.and_eq_false_iff,decide_eq_false_iff_not] at hb
   refine ziY (zcS w known).length (by omega) (fun k t=>t=s++((zcS w known).take k).filter (fun y=>decide (y.Source=q.getD i default))) (by simp [-List.getD_eq_getElem?_getD]) (fun k t K2 hk hI2 hK2=>?_)
   subst hI2
   have hlk:(((zcS w known).take k).filter (fun y=>decide (y.Source=q.getD i default))).length≤60:=Nat.le_trans (List.length_filter_le _ _) (by rw [List.length_take];omega)
   by_cases hkn:k<(zcS w known).length
   · refine zaY (by simp [-List.getD_eq_getElem?_getD];omega) (zas (by simp only;omega) (zas (by omega) ?_))
     simp only [Int.toNat_natCast]
     refine zch (fun he=>zas (by omega) (zcW (by rw [List.length_append,List.length_append];simp only [List.length_cons,List.length_nil];omega) (zaq (by omega) (hK2 _ hkn ?_)))) (fun he=>zaq (by omega) (hK2 _ hkn ?_))
     · rw [zds hkn,List.filter_append,List.append_assoc,List.filter_cons_of_pos (p:=fun y:Look=>decide (y.Source=q.getD i default)) (decide_eq_true he)];rfl
     · rw [zds hkn,List.filter_append,List.filter_cons_of_neg (p:=fun y:Look=>decide (y.Source=q.getD i default)) (by rw [decide_eq_true_eq];exact he),List.filter_nil,List.append_nil]
   · have:k=(zcS w known).length:=by omega
     subst this
     refine zaR (by simp [-List.getD_eq_getElem?_getD]) ?_
     rw [List.take_length]
     rcases filter_one hsrt (q.getD i default) with ⟨h5,h6⟩|⟨y,y1,y2,y3⟩
     · rw [h5]
       refine zaY (by simp [-List.getD_eq_getElem?_getD]) (zap (bad (fun ⟨s',h1,_⟩=>?_)))
       obtain ⟨a1,a2⟩:=h1.mem i hin
       exact h6 _ a1 a2
     · rw [y3]
       exact zaR (by simp only [List.length_append,List.length_cons,List.length_nil,decide_eq_false_iff_not];omega) (zaq (by omega) (hK _ ⟨i+1,by simp [-List.getD_eq_getElem?_getD],by omega,hs.push y1 y2 (fun h0=>by omega)⟩ (by simp only;omega)))
 · have:i=q.length:=by omega
   subst this
   refine zaR (by simp [-List.getD_eq_getElem?_getD]) (wp_bind (zfj V hf hT) (fun b hb=>?_))
   refine zbu (fun k=>zap (bad (fun ⟨s',h1,h2,_⟩=>?_))) (fun k=>?_)
   · rw [h1.uniq V hs] at h2;exact h2 (hb.1 k)
   have hns:¬ zb0 w known (sights w known s):=fun k2=>by rw [hb.2 k2] at k;cases k
   refine zfZ (n:=s.length) (by omega) (fun i=>zb0 w known (sights w known (without s i))) (fun i K hi _ hK=>?_) (fun h K=>zaR (by simp [-List.getD_eq_getElem?_getD]) (zap ⟨fun k=>absurd V k,fun _ k=>absurd hn k,fun _ _ _=>rfl,fun _ _ k=>absurd ⟨s,hs,hns,h⟩ k⟩))
   refine zaY (by simp [-List.getD_eq_getElem?_getD];omega) (zat (znf hi (by omega)) (wp_bind (zfj V hf (hT.sub (zdy s i))) (fun b2 hb2=>?_)))
   refine zbu (fun k2=>zap (bad (fun ⟨s',h1,_,h3⟩=>?_))) (fun k2=>zaq (by omega) (hK (hb2.1 (by simpa [-List.getD_eq_getElem?_getD] using k2))))
   rw [h1.uniq V hs] at h3
   have:=hb2.2 (h3 i hi)
   rw [this] at k2;cases k2
theorem zob (l:List Int) {fuel:Nat} (hf:l.length<fuel) (hl:l.length≤9223372036854775807):zbC fuel l l=some true:=by
 unfold zbC
 have e:(decide (((l.length:Nat):Int)=((l.length:Nat):Int)))=true:=by simp [-List.getD_eq_getElem?_getD]
 rw [e]
 refine Wp.eq (zqo l.length hf (fun i (s:Bool)=>s=true) rfl (fun i s K hi hI hK=>?_))
 subst hI
 by_cases hin:i<l.length
 · exact zaY (by simp [-List.getD_eq_getElem?_getD];omega) (zas (by simp only;omega) (zas (by simp only;omega) (zaq (by simp only;omega) (hK _ hin (by simp [-List.getD_eq_getElem?_getD])))))
 · exact zaR (by simp [-List.getD_eq_getElem?_getD];omega) (zap rfl)
theorem zii (w:Wear) (known:Int):∀ (n:Nat) (l:List Look),(clashF w known n l).length≤l.length
 | 0,l=>Nat.le_refl _
 | n+1,l=>by
  by_cases h:zb0 w known (sights w known (without l n))
  · rw [zmN h];exact zii w known n l
  · rw [zmO h];exact Nat.le_trans (zii w known n _) (zdy l n).length_le
theorem ClashV.len {w:Wear} {known:Int} {r:List Int×Int} (h:ClashV w known r):r.1.length≤60:=by
 by_cases V:WearOk w
 · by_cases hn:za5 known
   · by_cases hs:zb0 w known (allS w known)
     · rw [h.none V hn hs];simp [-List.getD_eq_getElem?_getD]
     · rw [h.ok V hn hs]
       simp only [List.length_map]
       exact Nat.le_trans (zii w known _ _) (ziP V known)
   · rw [h.day V hn];simp [-List.getD_eq_getElem?_getD]
 · rw [h.inv V];simp [-List.getD_eq_getElem?_getD]
theorem ziL {w:Wear} (hw:Fits w) (n:Arr2 Int) {q:List Int} (hq:q.length≤9223372036854775807):za7 1000 w n q=some true:=by
 unfold za7
 obtain ⟨a,a1,a2⟩:=zpH hw (fuel:=1000) (by omega) n.x0 n.x1
 obtain ⟨a',a1',a2'⟩:=zpA (w:=w) (fuel:=1000) (by omega) n.x0 n.x1
 obtain rfl:=a2.uniq a2'
 obtain ⟨b,b1,b2⟩:=zoC hw (fuel:=1000) (by omega) n.x1
 obtain ⟨b',b1',b2'⟩:=zon (w:=w) (fuel:=1000) (by omega) n.x1
 obtain rfl:=b2.uniq b2'
 obtain ⟨c,c1,c2⟩:=zoD hw (fuel:=1000) (by omega) n.x1
 obtain ⟨c',c1',c2'⟩:=zoo (w:=w) (fuel:=1000) (by omega) n.x1
 obtain rfl:=c2.uniq c2'
 obtain ⟨d,d1,d2⟩:=zjU hw (fuel:=1000) (by omega) n.x1 hq
 obtain ⟨d',d1',d2'⟩:=zjR (w:=w) (fuel:=1000) (by omega) n.x1 hq
 obtain rfl:=d2.uniq d2'
 have hl:=c2.len
 refine Wp.eq (zat zoa (zat a1 (zat a1' (zat b1 (zat b1' (zat c1 (zat c1' (zat (zob _ (by omega) (by omega)) ?_))))))))
 refine zn7 (by simp [-List.getD_eq_getElem?_getD]) d1 (zn7 (by simp [-List.getD_eq_getElem?_getD]) d1' (zap ?_))
 simp [-List.getD_eq_getElem?_getD]
end Go.Sp
end
