/- Texts of the framework, or of the plain law, one behind another. -/
import Derived.Test.YtakjeajlmlmkeaaGreatFr1
import Derived.Test.YtakjeajlmlmkeaaGreatFr5
import Derived.KernelRfl
/- Rules for plain laws: what a printed definition yields. No program in sight. -/
section
set_option linter.all false
namespace Go.Sp
open Go.Av
def Wp {R:Type} (x:Option R) (P:R→Prop):Prop:=∃ r,x=some r∧P r
theorem Wp.eq {R:Type} {x:Option R} {v:R} (h:Wp x (· = v)):x=some v:=by
 obtain ⟨r,h1,h2⟩:=h;rw [h1,h2]
theorem zaD {R:Type} {r:R} {P:R→Prop} (h:P r):Wp (some r) P:=⟨r,rfl,h⟩
theorem zax {R:Type} {c:Prop} [Decidable c] {x:Option R} {P:R→Prop} (h:c) (k:Wp x P):Wp (must c x) P:=by
 unfold must;rw [if_pos h];exact k
theorem wp_bind {S R:Type} {x:Option S} {k:S→Option R} {P:R→Prop} {Q:S→Prop} (h:Wp x Q) (hk:∀ s,Q s→Wp (k s) P):Wp (zan x k) P:=by
 obtain ⟨r,h1,h2⟩:=h;rw [h1];exact hk r h2
theorem zaN {S R:Type} {x:Option S} {k:S→Option R} {P:R→Prop} {v:S} (h:x=some v) (hk:Wp (k v) P):Wp (zan x k) P:=by
 rw [h];exact hk
theorem zcs {R:Type} {b:Bool} {x y:Option R} {P:R→Prop} (h1:b=true→Wp x P) (h2:b=false→Wp y P):Wp (bif b then x else y) P:=by
 cases b
 · exact h2 rfl
 · exact h1 rfl
theorem wp_if {R:Type} {p:Prop} {b:Bool} {x y:Option R} {P:R→Prop} (hb:b=true↔p) (h1:p→Wp x P) (h2:¬ p→Wp y P):Wp (bif b then x else y) P:=
 zcs (fun h=>h1 (hb.1 h)) (fun h=>h2 (fun hp=>by rw [hb.2 hp] at h;cases h))
theorem zcy {R:Type} {p:Prop} [Decidable p] {x y:Option R} {P:R→Prop} (h1:p→Wp x P) (h2:¬ p→Wp y P):Wp (bif (decide p) then x else y) P:=
 wp_if (decide_eq_true_iff) h1 h2
theorem zkg {R:Type} {p:Prop} [Decidable p] {x y:Option R} {P:R→Prop} (h1:¬ p→Wp x P) (h2:p→Wp y P):Wp (bif (!decide p) then x else y) P:=
 zcs (fun h=>h1 (by simpa using h)) (fun h=>h2 (by simpa using h))
theorem zdU {R:Type} {b:Bool} {x y:Option R} {P:R→Prop} (h:b=true) (h1:Wp x P):Wp (bif b then x else y) P:=by rw [h];exact h1
theorem zcP {R:Type} {b:Bool} {x y:Option R} {P:R→Prop} (h:b=false) (h1:Wp y P):Wp (bif b then x else y) P:=by rw [h];exact h1
theorem zgq {S R:Type} {f:(S→Option R)→Option R} {k:S→Option R} {P:R→Prop} (G:S→Prop) (hf:∀ K:S→Option R,(∀ s,G s→Wp (K s) P)→Wp (f K) P) (hk:∀ s,G s→Wp (k s) P):Wp (ziz f k) P:=hf k hk
theorem zdG {S R:Type} {body:Nat→S→(S→Option R)→Option R} {ex:S→Option R} {n:Nat} {s0:S} {P:R→Prop} (Inv:Nat→S→Prop) (h0:Inv 0 s0)
 (hb:∀ (i:Nat) s (K:S→Option R),i<n→Inv i s→(∀ s',Inv (i+1) s'→Wp (K s') P)→Wp (body i s K) P) (he:∀ s,Inv n s→Wp (ex s) P):Wp (zaq body ex n 0 s0) P:=by
 have go:∀ (m i:Nat),i+m=n→∀ s,Inv i s→Wp (zaq body ex m i s) P:=by
  intro m
  induction m with
  | zero=>intro i hi s hs;have e:i=n:=(by omega);subst e;exact he s hs
  | succ m ih=>intro i hi s hs;exact hb i s _ (by omega) hs (fun s' h'=>ih (i+1) (by omega) s' h')
 exact go n 0 (by omega) s0 h0
theorem wp_loop {S R:Type} {body:S→(S→Option R)→Option R} {fuel:Nat} {s0:S} {P:R→Prop} (Inv:S→Prop) (μ:S→Nat) (hf:μ s0<fuel) (h0:Inv s0)
 (hb:∀ s (K:S→Option R),Inv s→(∀ s',Inv s'→μ s'<μ s→Wp (K s') P)→Wp (body s K) P):Wp (loopGo body fuel s0) P:=by
 have go:∀ (f:Nat) s,Inv s→μ s<f→Wp (loopGo body f s) P:=by
  intro f
  induction f with
  | zero=>intro s _ h;omega
  | succ f ih=>intro s hs hm;exact hb s _ hs (fun s' h' hl=>ih s' h' (by omega))
 exact go fuel s0 h0 hf
theorem zlK {S R:Type} {body:(Int×S)→((Int×S)→Option R)→Option R} {fuel:Nat} {s0:S} {P:R→Prop} (n:Nat) (hf:n<fuel) (Inv:Nat→S→Prop) (h0:Inv 0 s0)
 (hb:∀ (i:Nat) s (K:(Int×S)→Option R),i≤n→Inv i s→(∀ s',i<n→Inv (i+1) s'→Wp (K ((i:Int)+1,s')) P)→Wp (body ((i:Int),s) K) P):Wp (loopGo body fuel (0,s0)) P:=by
 have go:∀ (f i:Nat) s,i≤n→n - i<f→Inv i s→Wp (loopGo body f ((i:Int),s)) P:=by
  intro f
  induction f with
  | zero=>intro i s _ h;omega
  | succ f ih=>intro i s hi hm hs;exact hb i s _ hi hs (fun s' hl h'=>ih (i+1) s' (by omega) (by omega) h')
 exact go fuel 0 s0 (by omega) (by omega) h0
end Go.Sp
end
/- More rules for plain laws. No program in sight. -/
section
set_option linter.all false
namespace Go.Sp
open Go.Av
theorem zal {R:Type} {n:Int} {x:Option R} {P:R→Prop} (h : -9223372036854775808≤n∧n≤9223372036854775807) (k:Wp x P):Wp (must (inI n) x) P:=zax h k
theorem zcr {R:Type} {n b:Nat} {x:Option R} {P:R→Prop} (h:n * b≤140737488355328∧n≤9223372036854775807) (k:Wp x P):Wp (must (room n b) x) P:=zax h k
theorem zk2 {S R:Type} [Inhabited S] {W:Bool} {x:Option S} {k:S→Option R} {P:R→Prop} {Q:S→Prop} (h:W=true→Wp x Q) (hk:∀ s,(W=true→Q s)→Wp (k s) P):Wp (zan (bif W then x else some default) k) P:=by
 cases W
 · exact hk _ (fun h=>by cases h)
 · exact wp_bind (h rfl) (fun s hs=>hk s (fun _=>hs))
end Go.Sp
end
/- Rules for plain laws, more of them. No program in sight. -/
section
set_option linter.all false
namespace Go.Sp
open Go.Av
theorem zh6 {R:Type} {body:Nat→Unit→(Unit→Option R)→Option R} {ex:Unit→Option R} {n:Nat} {P:R→Prop} (good:Nat→Prop)
 (hb:∀ (i:Nat) (K:Option R),i<n→(∀ j,j<i→good j)→(good i→Wp K P)→Wp (body i () (fun _=>K)) P) (he:(∀ j,j<n→good j)→Wp (ex ()) P):Wp (zaq body ex n 0 ()) P:=by
 refine zdG (fun i _=>∀ j,j<i→good j) (fun j hj=>by omega) (fun i s K hi hI hK=>?_) (fun s hs=>he hs)
 have e:K=fun _=>K ():=funext fun u=>rfl
 rw [e]
 exact hb i (K ()) hi hI (fun g=>hK () (fun j hj=>by
  by_cases e:j=i
  · rw [e];exact g
  · exact hI j (by omega)))
theorem zmS {S R:Type} {W:Bool} {x y:Option S} {k:S→Option R} {P:R→Prop} {v:S} (hW:W=true) (h:x=some v) (hk:Wp (k v) P):Wp (zan (bif W then x else y) k) P:=by
 subst hW;rw [h];exact hk
theorem zo7 {S R:Type} {W:Bool} {x y:Option S} {k:S→Option R} {P:R→Prop} {v:S} (hW:W=false) (h:y=some v) (hk:Wp (k v) P):Wp (zan (bif W then x else y) k) P:=by
 subst hW;rw [h];exact hk
theorem zgV {R:Type} {c:Prop} [Decidable c] (h:c) (x:Option R):must c x=x:=if_pos h
theorem zoC {T:Type} (l:List T) (i j:Nat) (x d:T) (hi:i<l.length):(l.set i x).getD j d=if j=i then x else l.getD j d:=by
 simp only [List.getD_eq_getElem?_getD]
 by_cases e:j=i
 · subst e;rw [List.getElem?_set_self hi,if_pos rfl];rfl
 · rw [List.getElem?_set_ne (fun h=>e h.symm),if_neg e]
theorem zca {T:Type} (l:List T) (x d:T) (i:Nat):(l++[x]).getD i d=if i=l.length then x else l.getD i d:=by
 simp only [List.getD_eq_getElem?_getD]
 rcases Nat.lt_trichotomy i l.length with h|h|h
 · rw [List.getElem?_append_left h,if_neg (by omega)]
 · subst h;simp
 · rw [if_neg (by omega),List.getElem?_eq_none (by simp;omega),List.getElem?_eq_none (by omega)]
theorem zbQ {T:Type} [Inhabited T] {l:List T} {i:Nat} (h:i<l.length):l.getD i default∈l:=by
 rw [List.getD_eq_getElem?_getD,List.getElem?_eq_getElem h];exact List.getElem_mem h
theorem zbV {T:Type} [Inhabited T] {l:List T} {x:T} (h:x∈l):∃ i,i<l.length∧l.getD i default=x:=by
 obtain ⟨i,hi,rfl⟩:=List.getElem_of_mem h
 exact ⟨i,hi,by rw [List.getD_eq_getElem?_getD,List.getElem?_eq_getElem hi];rfl⟩
theorem getD_take {T:Type} (l:List T) (n i:Nat) (d:T):(l.take n).getD i d=if i<n then l.getD i d else d:=by
 simp only [List.getD_eq_getElem?_getD,List.getElem?_take]
 split <;> rfl
theorem getD_drop {T:Type} (l:List T) (n i:Nat) (d:T):(l.drop n).getD i d=l.getD (n+i) d:=by
 simp only [List.getD_eq_getElem?_getD,List.getElem?_drop]
theorem ziE {T:Type} (l r:List T) (i:Nat) (d:T):(l++r).getD i d=if i<l.length then l.getD i d else r.getD (i - l.length) d:=by
 simp only [List.getD_eq_getElem?_getD]
 split
 · rename_i h;rw [List.getElem?_append_left h]
 · rename_i h;rw [List.getElem?_append_right (by omega)]
theorem zme {T:Type} [Inhabited T] {l r:List T} (hl:l.length=r.length) (h:∀ i,i<l.length→l.getD i default=r.getD i default):l=r:=by
 refine List.ext_getElem hl (fun i h1 h2=>?_)
 have:=h i h1
 rw [List.getD_eq_getElem?_getD,List.getD_eq_getElem?_getD,List.getElem?_eq_getElem h1,List.getElem?_eq_getElem h2] at this
 exact this
theorem zlZ {T:Type} [DecidableEq T]:∀ {l r:List T},l.Nodup→(∀ x∈l,x∈r)→l.length≤r.length
 | [],r,_,_=>Nat.zero_le _
 | x::l,r,hn,hs=>by
  have hx:=hs x List.mem_cons_self
  rw [List.nodup_cons] at hn
  have:=zlZ (l:=l) (r:=r.erase x) hn.2 (fun y hy=>(List.mem_erase_of_ne (fun (e:y=x)=>hn.1 (e▸hy))).2 (hs y (List.mem_cons_of_mem _ hy)))
  rw [List.length_erase_of_mem hx] at this
  have:=List.length_pos_of_mem hx
  simp only [List.length_cons];omega
theorem zoG {x:Int} {j:Nat} (h:0≤x):Int.fdiv x (2 ^ j)=((x.toNat >>> j:Nat):Int):=by
 obtain ⟨n,rfl⟩:=Int.eq_ofNat_of_zero_le h
 rw [Int.toNat_natCast,Nat.shiftRight_eq_div_pow]
 have:(2:Int) ^ j=((2 ^ j:Nat):Int):=by simp
 rw [this,Int.fdiv_eq_ediv_of_nonneg _ (Int.natCast_nonneg _)]
 exact (Int.natCast_ediv _ _).symm
theorem zmJ {A:Type} {body:Nat→Unit→(Unit→Option (List A))→Option (List A)} {n:Nat} (W:Nat→Bool) (x:Nat→A)
 (hb:∀ (i:Nat) (r:Option (List A)),i<n→body i () (fun _=>r)=zjk (W i) (x i) r):zaq body (fun _=>some []) n 0 ()=some (((List.range' 0 n).filter W).map x):=by
 have go:∀ m i,i+m=n→zaq body (fun _=>some []) m i ()=some (((List.range' i m).filter W).map x):=by
  intro m
  induction m with
  | zero=>intro i _;rfl
  | succ m ih=>
   intro i hi
   have e:zaq body (fun _=>some []) (m+1) i ()=body i () (fun u=>zaq body (fun _=>some []) m (i+1) u):=rfl
   rw [e]
   have e2:(fun u=>zaq body (fun _=>some ([]:List A)) m (i+1) u)=fun _=>some (((List.range' (i+1) m).filter W).map x):=by
    funext u;exact ih (i+1) (by omega)
   rw [e2,hb i _ (by omega),List.range'_succ,List.filter_cons]
   cases W i <;> rfl
 exact go n 0 (by omega)
end Go.Sp
end
/- Binary search, and insertion into a sorted list. No program in sight. -/
section
set_option linter.all false
namespace Go.Sp
open Go.Av
def bsF {T E:Type} [Inhabited T] (fuel:Nat) (p0:List T) (p1:E) (p2:T→E→Option Int):Option (Int×Bool):=
 (loopGo (fun (s1:Int×Int) k1=>(bif (decide (s1.2<s1.1)) then must (inI (s1.2+s1.1)) <| must (inU (s1.2+s1.1)) <| must (inI (Int.fdiv (s1.2+s1.1) (2 ^ (1:Int).toNat))) <| must (0≤((Int.fdiv (s1.2+s1.1) (2 ^ (1:Int).toNat)):Int)∧((Int.fdiv (s1.2+s1.1) (2 ^ (1:Int).toNat)):Int)<((p0.length:Nat):Int)) <| zan (p2 (p0.getD ((Int.fdiv (s1.2+s1.1) (2 ^ (1:Int).toNat))).toNat default) p1) fun y7=>(bif (decide (y7<0)) then must (inI ((Int.fdiv (s1.2+s1.1) (2 ^ (1:Int).toNat))+1)) <| k1 (s1.1,((Int.fdiv (s1.2+s1.1) (2 ^ (1:Int).toNat))+1)) else k1 ((Int.fdiv (s1.2+s1.1) (2 ^ (1:Int).toNat)),s1.2)) else must (((decide (s1.2<((p0.length:Nat):Int)))=true→(0≤(s1.2:Int)∧(s1.2:Int)<((p0.length:Nat):Int)))) <| zan ((bif (decide (s1.2<((p0.length:Nat):Int))) then p2 (p0.getD (s1.2).toNat default) p1 else some default)) fun y12=>some (s1.2,((decide (s1.2<((p0.length:Nat):Int))) && (decide (y12=0)))))) fuel (((p0.length:Nat):Int),0))
theorem bsF_eq {T E:Type} [Inhabited T] {fuel:Nat} (l:List T) (x:E) {p2:T→E→Option Int} {c:T→Int} (hp:∀ t,p2 t x=some (c t)) {k:Nat} (hk:k≤l.length)
 (h1:∀ i,i<k→c (l.getD i default)<0) (h2:∀ i,k≤i→i<l.length→0≤c (l.getD i default)) (hl:l.length≤1000000000) (hf:l.length<fuel) :
 bsF fuel l x p2=some ((k:Int),decide (k<l.length) && decide (c (l.getD k default)=0)):=by
 unfold bsF
 refine Wp.eq (wp_loop (fun s=>∃ lo hi:Nat,s=((hi:Int),(lo:Int))∧lo≤k∧k≤hi∧hi≤l.length) (fun s=>(s.1 - s.2).toNat) (by simp only;omega) ⟨0,l.length,rfl,by omega,hk,by omega⟩ ?_)
 rintro _ K ⟨lo,hi,rfl,a1,a2,a3⟩ hK
 simp only at hK ⊢
 refine zcy (fun hlt=>?_) (fun hge=>?_)
 · have e2:Int.fdiv ((lo:Int)+hi) (2 ^ (1:Int).toNat)=(((lo+hi) / 2:Nat):Int):=by
    rw [show (1:Int).toNat=1 from rfl,zoG (by omega),show ((lo:Int)+hi).toNat=lo+hi by omega,Nat.shiftRight_eq_div_pow]
   rw [e2]
   generalize hm:(lo+hi) / 2=m
   refine zal (by omega) (zax (by unfold inU;omega) (zal (by omega) (zax (by omega) (zaN (hp _) ?_))))
   rw [Int.toNat_natCast]
   refine zcy (fun hc=>?_) (fun hc=>?_)
   · refine zal (by omega) (hK _ ⟨m+1,hi,by simp,?_,a2,a3⟩ (by simp only;omega))
     rcases Nat.lt_or_ge m k with h|h
     · omega
     · have:=h2 m h (by omega);omega
   · refine hK _ ⟨lo,m,rfl,a1,?_,by omega⟩ (by simp only;omega)
     rcases Nat.lt_or_ge m k with h|h
     · exact absurd (h1 m h) hc
     · exact h
 · have elo:lo=k:=by omega
   subst elo
   refine zax (fun h=>by have:=of_decide_eq_true h;omega) ?_
   by_cases hlt:(lo:Int)<(l.length:Int)
   · refine zmS (by simp;omega) (hp _) (zaD ?_)
     rw [Int.toNat_natCast]
     congr 2
     simp
   · refine zo7 (by simp;omega) rfl (zaD ?_)
     have e1:decide ((lo:Int)<(l.length:Int))=false:=by simp;omega
     have e2:decide (lo<l.length)=false:=by simp;omega
     rw [e1,e2];rfl
theorem zlP {A:Nat→Prop}:∀ (n:Nat),(∀ i j,i<j→j<n→A j→A i)→∃ k,k≤n∧(∀ i,i<k→A i)∧∀ i,k≤i→i<n→¬ A i
 | 0,_=>⟨0,Nat.le_refl _,fun i h=>absurd h (Nat.not_lt_zero _),fun i _ h=>absurd h (Nat.not_lt_zero _)⟩
 | n+1,hm=>by
  obtain ⟨k,h1,h2,h3⟩:=zlP n (fun i j hij hj=>hm i j hij (by omega))
  by_cases hn:A n
  · refine ⟨n+1,Nat.le_refl _,fun i hi=>?_,fun i h4 h5=>by omega⟩
    rcases Nat.lt_or_ge i n with h|h
    · exact hm i n h (by omega) hn
    · have:i=n:=by omega
      rw [this];exact hn
  · refine ⟨k,by omega,h2,fun i h4 h5=>?_⟩
    rcases Nat.lt_or_ge i n with h|h
    · exact h3 i h4 h
    · have:i=n:=by omega
      rw [this];exact hn
theorem zh8 {T:Type} [Inhabited T] {p:T→Bool}:∀ (l:List T) (k:Nat),k≤l.length→(∀ i,i<k→p (l.getD i default)=true)→(k<l.length→p (l.getD k default)=false)→l.takeWhile p=l.take k∧l.dropWhile p=l.drop k
 | [],k,hk,_,_=>by simp
 | a::l,0,hk,h1,h2=>by
  have:=h2 (by simp)
  simp at this
  simp [this]
 | a::l,k+1,hk,h1,h2=>by
  have h0:=h1 0 (by omega)
  simp at h0
  obtain ⟨q1,q2⟩:=zh8 l k (by simpa using hk) (fun i hi=>by simpa using h1 (i+1) (by omega)) (fun hi=>by simpa using h2 (by simpa using hi))
  simp [h0,q1,q2]
theorem zmn {T:Type} (f:T→Int):∀ {a b:List T},a.Pairwise (fun x y=>f x<f y)→b.Pairwise (fun x y=>f x<f y)→(∀ z,z∈a↔z∈b)→a=b
 | [],[],_,_,_=>rfl
 | [],y::b,_,_,h=>by have:=(h y).2 (by simp);simp at this
 | x::a,[],_,_,h=>by have:=(h x).1 (by simp);simp at this
 | x::a,y::b,ha,hb,h=>by
  rw [List.pairwise_cons] at ha hb
  have hxy:x=y:=by
   rcases List.mem_cons.1 ((h x).1 (by simp)) with e|e
   · exact e
   · rcases List.mem_cons.1 ((h y).2 (by simp)) with e2|e2
     · exact e2.symm
     · have h1:=hb.1 x e;have h2:=ha.1 y e2;omega
  subst hxy
  congr 1
  refine zmn f ha.2 hb.2 (fun z=>?_)
  constructor
  · intro hz
    rcases List.mem_cons.1 ((h z).1 (by simp [hz])) with e|e
    · have:=ha.1 z hz;rw [e] at this;omega
    · exact e
  · intro hz
    rcases List.mem_cons.1 ((h z).2 (by simp [hz])) with e|e
    · have:=hb.1 z hz;rw [e] at this;omega
    · exact e
theorem zju {T:Type} [Inhabited T] (f:T→Int) {l:List T} (h:∀ i,0<i→i<l.length→f (l.getD (i - 1) default)<f (l.getD i default)):l.Pairwise (fun a b=>f a<f b):=by
 rw [List.pairwise_iff_getElem]
 intro i j hi hj hij
 have step:∀ k,i+1+k<l.length→f l[i]<f (l.getD (i+1+k) default):=by
  intro k
  induction k with
  | zero=>
   intro hk
   have:=h (i+1) (by omega) hk
   have e:l.getD (i+1 - 1) default=l[i]:=by simp [List.getElem?_eq_getElem hi]
   rw [e] at this;exact this
  | succ k ih=>
   intro hk
   have h1:=ih (by omega)
   have h2:=h (i+1+(k+1)) (by omega) hk
   have e:i+1+(k+1) - 1=i+1+k:=by omega
   rw [e] at h2;omega
 have:=step (j - i - 1) (by omega)
 have e:i+1+(j - i - 1)=j:=by omega
 rw [e] at this
 simpa [List.getElem?_eq_getElem hj] using this
theorem zfr {T:Type} [Inhabited T] {f:T→Int} {l:List T} (hs:l.Pairwise (fun a b=>f a<f b)) {i j:Nat} (hij:i<j) (hj:j<l.length):f (l.getD i default)<f (l.getD j default):=by
 have:=List.pairwise_iff_getElem.1 hs i j (by omega) hj hij
 simpa [List.getElem?_eq_getElem hj,List.getElem?_eq_getElem (show i<l.length by omega)] using this
theorem zmm {T:Type} [Inhabited T] {f:T→Int} {l:List T} (hs:l.Pairwise (fun a b=>f a<f b)) {x y:T} (hx:x∈l) (hy:y∈l) (e:f x=f y):x=y:=by
 obtain ⟨i,hi,rfl⟩:=zbV hx
 obtain ⟨j,hj,rfl⟩:=zbV hy
 rcases Nat.lt_trichotomy i j with q|q|q
 · have:=zfr hs q hj;omega
 · rw [q]
 · have:=zfr hs q hi;omega
theorem zkj {T:Type} [Inhabited T] (f:T→Int) {l:List T} (hs:l.Pairwise (fun a b=>f a<f b)) (s:Int):∃ k,k≤l.length∧(∀ i,i<k→f (l.getD i default)<s)∧(∀ i,k≤i→i<l.length→¬ f (l.getD i default)<s) ∧
 ((∀ y∈l,f y≠s)↔¬ (k<l.length∧f (l.getD k default)=s))∧l.takeWhile (fun y=>decide (f y<s))=l.take k∧l.dropWhile (fun y=>decide (f y<s))=l.drop k:=by
 obtain ⟨k,k1,k2,k3⟩:=zlP (A:=fun i=>f (l.getD i default)<s) l.length (fun i j hij hj h=>Int.lt_trans (zfr hs hij hj) h)
 refine ⟨k,k1,k2,k3,⟨fun h hk=>h _ (zbQ hk.1) hk.2,fun h y hy e=>?_⟩,zh8 l k k1 (fun i hi=>decide_eq_true (k2 i hi)) (fun hk=>decide_eq_false (k3 k (Nat.le_refl _) hk))⟩
 obtain ⟨i,hi,rfl⟩:=zbV hy
 rcases Nat.lt_trichotomy i k with hik|hik|hik
 · have:=k2 i hik;omega
 · subst hik;exact h ⟨hi,e⟩
 · have h1:=zfr hs hik hi
   have h2:=k3 k (Nat.le_refl _) (by omega)
   omega
theorem zpu {T:Type} (l:List T) (k:Nat):(l.take k++l.drop (k+1)).Sublist l:=by
 have:=List.Sublist.append (List.Sublist.refl (l.take k)) (List.drop_sublist_drop_left l (Nat.le_succ k))
 rwa [List.take_append_drop] at this
theorem zkk {T:Type} {f:T→Int} {l:List T} (hs:l.Pairwise (fun a b=>f a<f b)):l.Nodup:=hs.imp (fun h e=>by rw [e] at h;omega)
end Go.Sp
end
/- slices.IndexFunc and slices.DeleteFunc, as they are printed. No program in sight. -/
section
set_option linter.all false
namespace Go.Sp
open Go.Av
set_option maxRecDepth 100000
theorem zet {T:Type} [Inhabited T] {p:T→Option Bool} {q:T→Bool} (hp:∀ x,p x=some (q x)) (l:List T) :
 (zaq (fun i1 (s1:Unit) k1=>zan (p (l.getD i1 default)) fun y3=>(bif y3 then some (i1:Int) else k1 ())) (fun (s1:Unit)=>some (-1)) l.length 0 ():Option Int)=some (match l.findIdx? q with|some i=>(i:Int)|none=>-1):=by
 refine (zh6 (P:=fun r=>r=(match l.findIdx? q with|some i=>(i:Int)|none=>-1)) (fun i=>q (l.getD i default)=false) (fun i K hi hb hK=>?_) (fun h1=>?_)).eq
 · rw [hp]
   refine zcs (fun h=>zaD ?_) (fun h=>hK h)
   have:l.findIdx? q=some i:=by
    rw [List.findIdx?_eq_some_iff_getElem]
    refine ⟨hi,?_,fun j hj=>?_⟩
    · rw [List.getD_eq_getElem?_getD,List.getElem?_eq_getElem hi] at h;exact h
    · have:=hb j hj
      rw [List.getD_eq_getElem?_getD,List.getElem?_eq_getElem (by omega)] at this
      simpa using this
   rw [this]
 · refine zaD ?_
   have:l.findIdx? q=none:=by
    rw [List.findIdx?_eq_none_iff]
    intro x hx
    obtain ⟨i,hi,rfl⟩:=zbV hx
    exact h1 i hi
   rw [this]
theorem zk6 {T:Type} {l:List T} {i:Nat} {x:T} (h:i<l.length):(l.set i x).take (i+1)=l.take i++[x]:=by
 rw [List.take_add_one,List.getElem?_set_self h,List.take_set_of_le (Nat.le_refl _)];rfl
theorem zk7 {T:Type} [Inhabited T] (l:List T) (a m:Nat) (f:Nat→T) (h:a≤l.length):(za9 l a m f).take a=l.take a:=by
 refine zme (by simp [za9]) (fun i hi=>?_)
 have hi':i<a:=by simp [za9] at hi;omega
 rw [getD_take,getD_take,if_pos hi',if_pos hi']
 unfold za9
 rw [List.getD_eq_getElem?_getD,List.getElem?_map,List.getElem?_range (by omega)]
 simp only [Option.map_some,Option.getD_some]
 rw [if_neg (by omega)]
theorem zg0 {T:Type} [Inhabited T] {l:List T} {i:Nat} (h:i<l.length):l.drop i=l.getD i default::l.drop (i+1):=by
 rw [List.getD_eq_getElem?_getD,List.getElem?_eq_getElem h];exact List.drop_eq_getElem_cons h
theorem zif {T:Type} [Inhabited T] {l:List T} {i:Nat} (h:i<l.length):l.take (i+1)=l.take i++[l.getD i default]:=by
 rw [List.take_add_one,List.getD_eq_getElem?_getD,List.getElem?_eq_getElem h];rfl
theorem zj7 {T:Type} [Inhabited T] (z:T) {p:T→Option Bool} {q:T→Bool} (hp:∀ x,p x=some (q x)) (l:List T) (fuel:Nat) (hf:l.length<fuel) (hl:l.length<9223372036854775807) :
 (zan (zaq (fun i1 (s1:Unit) k1=>zan (p (l.getD i1 default)) fun y3=>(bif y3 then some (i1:Int) else k1 ())) (fun (s1:Unit)=>some (-1)) l.length 0 ():Option Int) fun y1=>(bif (decide (y1=(-1))) then some l else must (inI (y1+1)) <| (loopGo (fun (s5:Int×Int×(List T)) k5=>(bif (decide (s5.2.1<((s5.2.2.length:Nat):Int))) then must (0≤(s5.2.1:Int)∧(s5.2.1:Int)<((s5.2.2.length:Nat):Int)) <| zan (p (s5.2.2.getD (s5.2.1).toNat default)) fun y8=>(bif (!y8) then must (0≤(s5.1:Int)∧(s5.1:Int)<((s5.2.2.length:Nat):Int)) <| must (inI (s5.1+1)) <| must (inI (s5.2.1+1)) <| k5 ((s5.1+1),(s5.2.1+1),(s5.2.2.set (s5.1).toNat (s5.2.2.getD (s5.2.1).toNat default))) else must (inI (s5.2.1+1)) <| k5 (s5.1,(s5.2.1+1),s5.2.2)) else must (0<s5.2.2.length∧0≤(s5.1:Int)∧(s5.1:Int)≤((s5.2.2.length:Nat):Int)) <| must (0<(za9 s5.2.2 ((s5.1).toNat) (s5.2.2.length - (s5.1).toNat) (fun _=>z)).length∧0≤(s5.1:Int)∧(s5.1:Int)≤(((za9 s5.2.2 ((s5.1).toNat) (s5.2.2.length - (s5.1).toNat) (fun _=>z)).length:Nat):Int)) <| some ((za9 s5.2.2 ((s5.1).toNat) (s5.2.2.length - (s5.1).toNat) (fun _=>z)).take ((s5.1).toNat)))) fuel (y1,(y1+1),l))):Option (List T))=some (l.filter (fun x=>!q x)):=by
 rw [zet hp l]
 refine Wp.eq (zaN rfl ?_)
 cases hi:l.findIdx? q with
 | none=>
  rw [List.findIdx?_eq_none_iff] at hi
  refine zdU (by simp) (zaD ?_)
  exact (List.filter_eq_self.2 (fun x hx=>by rw [hi x hx];rfl)).symm
 | some i=>
  rw [List.findIdx?_eq_some_iff_getElem] at hi
  obtain ⟨h1,h2,h3⟩:=hi
  refine zcP (by simp) (zal (by simp only;omega) ?_)
  refine wp_loop (fun s=>∃ a b:Nat,s.1=(a:Int)∧s.2.1=(b:Int)∧a<b∧b≤l.length∧s.2.2.length=l.length∧s.2.2.take a=(l.take b).filter (fun x=>!q x)∧s.2.2.drop b=l.drop b) (fun s=>l.length - s.2.1.toNat) (by simp only;omega) ⟨i,i+1,rfl,by simp,by omega,by omega,rfl,?_,rfl⟩ ?_
  · rw [zif h1,List.filter_append]
    have e1:(l.take i).filter (fun x=>!q x)=l.take i:=List.filter_eq_self.2 (fun x hx=>by
     obtain ⟨j,hj,rfl⟩:=List.getElem_of_mem hx
     have hj':j<i:=by simp at hj;omega
     have:=h3 j hj'
     simp only [List.getElem_take]
     simpa using this)
    have e2:q (l.getD i default)=true:=by rw [List.getD_eq_getElem?_getD,List.getElem?_eq_getElem h1];exact h2
    rw [e1];simp [e2,-List.getD_eq_getElem?_getD]
  · rintro ⟨s1,s2,s3⟩ K ⟨a,b,rfl,rfl,hab,hb,hlen,ht,hd⟩ hK
    simp only at hK ht hd hlen ⊢
    refine zcy (fun hlt=>?_) (fun hge=>?_)
    · have hbl:b<l.length:=by omega
      refine zax (by omega) ?_
      rw [hp]
      simp only [Int.toNat_natCast]
      have ex:s3.getD b default=l.getD b default:=by
       have:=zg0 (l:=s3) (i:=b) (by omega)
       rw [hd,zg0 hbl] at this
       exact (List.cons.inj this).1.symm
      have hd1:s3.drop (b+1)=l.drop (b+1):=by
       have:=zg0 (l:=s3) (i:=b) (by omega)
       rw [hd,zg0 hbl] at this
       exact (List.cons.inj this).2.symm
      refine zaN rfl ?_
      rw [ex]
      refine zcs (fun hq=>?_) (fun hq=>?_)
      · refine zax (by omega) (zal (by omega) (zal (by omega) ?_))
        refine hK _ ⟨a+1,b+1,by simp,by simp,by omega,by omega,by simp [hlen],?_,?_⟩ (by simp only;omega)
        · rw [zk6 (by omega),ht,zif hbl,List.filter_append]
          simp only [Bool.not_eq_true'] at hq
          simp [hq,-List.getD_eq_getElem?_getD]
        · rw [List.drop_set_of_lt (by omega)];exact hd1
      · refine zal (by omega) (hK _ ⟨a,b+1,rfl,by simp,by omega,by omega,hlen,?_,hd1⟩ (by simp only;omega))
        rw [ht,zif hbl,List.filter_append]
        simp only [Bool.not_eq_false'] at hq
        simp [hq,-List.getD_eq_getElem?_getD]
    · refine zax (by omega) (zax ?_ (zaD ?_))
      · rw [ze2];omega
      · simp only [Int.toNat_natCast]
        rw [zk7 _ _ _ _ (by omega),ht,List.take_of_length_le (by omega)]
end Go.Sp
end
/- Plain laws, mantle: valid batches, mantles, burns, looks and wears, checked by both. No program in sight. -/
section
set_option linter.all false
namespace Go.Sp
open Go.Av
set_option maxRecDepth 100000
structure BatchOk (b:Batch):Prop where
 id:1≤b.Id∧b.Id≤99
 life:0≤b.Life.Lo∧b.Life.Lo≤b.Life.Hi∧b.Life.Hi≤1000000
structure ToldOk (s l n k u:Int):Prop where
 src:1≤s∧s≤99999
 lamp:1≤l∧l≤999
 night:0≤n∧n≤100000
 known:0≤k∧k≤100000
 til:u=0∨(k<u∧u≤100000)
structure MantleOk (m:Mantle):Prop where
 told:ToldOk m.Source m.Lamp m.Night m.Known m.Until
 batch:1≤m.Batch∧m.Batch≤99
structure BurnOk (b:Burn):Prop where
 told:ToldOk b.Source b.Lamp b.Night b.Known b.Until
 min:0≤b.Minutes.Lo∧b.Minutes.Lo≤b.Minutes.Hi∧b.Minutes.Hi≤1440
def zkZ (l:Look):Prop:=ToldOk l.Source l.Lamp l.Night l.Known l.Until
theorem mwithin {a b c:Int}:zaK a b c=(decide (b≤a) && decide (a≤c)):=rfl
theorem bif0 (b:Bool) {c:Int} (hc:c≠0):((bif b then c else 0)=0)↔b=false:=by cases b <;> simp [-List.getD_eq_getElem?_getD,hc]
theorem zn5 (b:Bool) (c:Int):(bif b then c else 0)=0∨(bif b then c else 0)=c:=by cases b <;> simp [-List.getD_eq_getElem?_getD]
theorem zfU {n k u:Int}:zaX n k u=true↔(0≤n∧n≤100000)∧(0≤k∧k≤100000)∧(u=0∨(k<u∧u≤100000)):=by
 simp only [zaX,zaH,mwithin,Bool.and_eq_true,Bool.or_eq_true,decide_eq_true_eq]
 omega
theorem ziw {b:Batch}:zaT b=0↔BatchOk b:=by
 unfold zaT
 rw [bif0 _ (by decide)]
 simp only [zbz,mwithin,Bool.or_eq_false_iff,Bool.not_eq_false',Bool.and_eq_true,decide_eq_true_eq]
 exact ⟨fun h=>⟨h.1,by omega⟩,fun h=>⟨h.id,by have:=h.life;omega⟩⟩
theorem zkw {m:Mantle}:za8 m=0↔MantleOk m:=by
 unfold za8
 rw [bif0 _ (by decide)]
 simp only [zaV,zaP,mwithin,Bool.or_eq_false_iff,Bool.not_eq_false',Bool.and_eq_true,decide_eq_true_eq,zfU]
 exact ⟨fun h=>⟨⟨h.1.1.1,h.1.1.2,h.2.1,h.2.2.1,h.2.2.2⟩,h.1.2⟩,fun h=>⟨⟨⟨h.told.src,h.told.lamp⟩,h.batch⟩,h.told.night,h.told.known,h.told.til⟩⟩
theorem zmz {m:Burn}:zbq m=0↔BurnOk m:=by
 unfold zbq
 rw [bif0 _ (by decide)]
 simp only [zaV,zaP,zbz,mwithin,Bool.or_eq_false_iff,Bool.not_eq_false',Bool.and_eq_true,decide_eq_true_eq,zfU]
 exact ⟨fun h=>⟨⟨h.1.1.1,h.1.1.2,h.2.1,h.2.2.1,h.2.2.2⟩,by have:=h.1.2;omega⟩,fun h=>⟨⟨⟨h.told.src,h.told.lamp⟩,by have:=h.min;omega⟩,h.told.night,h.told.known,h.told.til⟩⟩
theorem zmy {m:Look}:zaZ m=0↔zkZ m:=by
 unfold zaZ
 rw [bif0 _ (by decide)]
 simp only [zaV,zaP,mwithin,Bool.or_eq_false_iff,Bool.not_eq_false',Bool.and_eq_true,decide_eq_true_eq,zfU]
 exact ⟨fun h=>⟨h.1.1,h.1.2,h.2.1,h.2.2.1,h.2.2.2⟩,fun h=>⟨⟨h.src,h.lamp⟩,h.night,h.known,h.til⟩⟩
theorem zpd (b:Batch):zbg b=zaT b:=by
 have h:zbg b=0↔BatchOk b:=by
  unfold zbg
  rw [bif0 _ (by decide)]
  simp only [zcj,Bool.or_eq_false_iff,Bool.not_eq_false',Bool.and_eq_true,decide_eq_true_eq,decide_eq_false_iff_not]
  exact ⟨fun h=>⟨h.1.1,by omega⟩,fun h=>⟨⟨h.id,by have:=h.life;omega⟩,by have:=h.life;omega⟩⟩
 rw [← ziw] at h
 have h1:=zn5 (((!(zcj b.Id 1 99)) || (!(zcj b.Life.Lo 0 b.Life.Hi))) || (decide (1000000<b.Life.Hi))) 60
 have h2:=zn5 ((!(zaK b.Id 1 99)) || (!(zbz b.Life 1000000))) 60
 change zbg b=0∨zbg b=60 at h1
 change zaT b=0∨zaT b=60 at h2
 omega
def zfV {T:Type} [Inhabited T] (ok:T→Prop) (num:T→Int) (l:List T):Prop:=∀ i,i<l.length→ok (l.getD i default)∧(0<i→num (l.getD (i - 1) default)<num (l.getD i default))
theorem zga {T:Type} [Inhabited T] {chk num:T→Int} {ok:T→Prop} (hok:∀ x,chk x=0↔ok x) {l:List T} {p1:Int} (hl:l.length≤9223372036854775807) :
 Wp (zaq (fun i1 (s1:Unit) k1=>zan ((fun x0=>some (chk x0)) (l.getD i1 default)) fun y3=>must ((((!(!decide (y3=0))) && (decide (0<(i1:Int))))=true→(inI ((i1:Int) - 1)))) <| must ((((!(!decide (y3=0))) && (decide (0<(i1:Int))))=true→(0≤(((i1:Int) - 1):Int)∧(((i1:Int) - 1):Int)<((l.length:Nat):Int)))) <| zan ((bif ((!(!decide (y3=0))) && (decide (0<(i1:Int)))) then (fun x0=>some (num x0)) (l.getD (((i1:Int) - 1)).toNat default) else some default)) fun y7=>zan ((bif ((!(!decide (y3=0))) && (decide (0<(i1:Int)))) then (fun x0=>some (num x0)) (l.getD i1 default) else some default)) fun y9=>(bif ((!decide (y3=0)) || ((decide (0<(i1:Int))) && (decide (y9≤y7)))) then some false else k1 ())) (fun (s1:Unit)=>some (decide (((l.length:Nat):Int)≤p1))) l.length 0 ():Option Bool)
  (fun b=>b=true↔zfV ok num l∧(l.length:Int)≤p1):=by
 refine zh6 (fun i=>ok (l.getD i default)∧(0<i→num (l.getD (i - 1) default)<num (l.getD i default))) (fun i K hi _ hK=>?_) (fun h1=>zaD ?_)
 · refine zaN rfl ?_
   refine zax (fun _=>by unfold inI;omega) ?_
   refine zax (fun h=>by simp [-List.getD_eq_getElem?_getD] at h;omega) ?_
   have e:(((i:Int) - 1)).toNat=i - 1:=by omega
   rw [e]
   refine zk2 (Q:=fun y=>y=num (l.getD (i - 1) default)) (fun _=>zaD rfl) (fun y7 h7=>?_)
   refine zk2 (Q:=fun y=>y=num (l.getD i default)) (fun _=>zaD rfl) (fun y9 h9=>?_)
   by_cases hc:chk (l.getD i default)=0
   · by_cases h0:0<i
     · have hW:((!(!decide (chk (l.getD i default)=0))) && (decide (0<(i:Int))))=true:=by simp [-List.getD_eq_getElem?_getD,hc,h0]
       rw [h7 hW,h9 hW]
       refine zcs (fun hb=>zaD ?_) (fun hb=>hK ⟨(hok _).1 hc,fun _=>?_⟩)
       · simp only [hc,decide_true,Bool.not_true,Bool.false_or,Bool.and_eq_true,decide_eq_true_eq] at hb
         refine ⟨fun h=>(by cases h),fun h=>?_⟩
         have:=(h.1 i hi).2 h0;omega
       · simp only [hc,decide_true,Bool.not_true,Bool.false_or,Bool.and_eq_false_iff,decide_eq_false_iff_not] at hb
         omega
     · refine zcP (by simp [-List.getD_eq_getElem?_getD,hc];omega) (hK ⟨(hok _).1 hc,fun h=>absurd h h0⟩)
   · refine zdU (by simp [-List.getD_eq_getElem?_getD,hc]) (zaD ⟨fun h=>(by cases h),fun h=>absurd ((hok _).2 (h.1 i hi).1) hc⟩)
 · simp only [decide_eq_true_eq]
   exact ⟨fun h=>⟨h1,h⟩,fun h=>h.2⟩
structure WearOk (w:Wear):Prop where
 nb:w.Batches.length≤8
 nm:w.Mantles.length≤60
 nu:w.Burns.length≤60
 nl:w.Looks.length≤60
 ba:zfV BatchOk (·.Id) w.Batches
 ma:zfV MantleOk (·.Source) w.Mantles
 bu:zfV BurnOk (·.Source) w.Burns
 lo:zfV zkZ (·.Source) w.Looks
 has:∀ i,i<w.Mantles.length→∃ j,j<w.Batches.length∧(w.Batches.getD j default).Id=(w.Mantles.getD i default).Batch
structure Fits (w:Wear):Prop where
 b:w.Batches.length≤4611686018427387904
 m:w.Mantles.length≤4611686018427387904
 u:w.Burns.length≤4611686018427387904
 l:w.Looks.length≤4611686018427387904
theorem WearOk.fits {w:Wear} (h:WearOk w):Fits w:=⟨by have:=h.nb;omega,by have:=h.nm;omega,by have:=h.nu;omega,by have:=h.nl;omega⟩
def zeP (w:Wear) (id:Int):Int:=match w.Batches.findIdx? (fun b=>decide (b.Id=id)) with
 | some i=>(i:Int)
 | none=>-1
theorem zjo (w:Wear) (id:Int):zbJ w id=some (zeP w id):=by
 unfold zbJ zbO
 rw [zet (p:=fun x0=>some (zbS x0 id)) (q:=fun b=>decide (b.Id=id)) (fun x=>rfl)]
 rfl
theorem zhB {w:Wear} {id:Int}:zeP w id<0↔¬ ∃ j,j<w.Batches.length∧(w.Batches.getD j default).Id=id:=by
 unfold zeP
 cases h:w.Batches.findIdx? (fun b=>decide (b.Id=id)) with
 | none=>
  rw [List.findIdx?_eq_none_iff] at h
  simp only [Int.reduceNeg,Int.reduceLT,true_iff]
  rintro ⟨j,hj,e⟩
  have:=h _ (zbQ hj)
  simp [-List.getD_eq_getElem?_getD,e] at this
 | some i=>
  rw [List.findIdx?_eq_some_iff_getElem] at h
  obtain ⟨h1,h2,h3⟩:=h
  refine ⟨fun h=>by simp [-List.getD_eq_getElem?_getD] at h;omega,fun h=>absurd ⟨i,h1,?_⟩ h⟩
  rw [List.getD_eq_getElem?_getD,List.getElem?_eq_getElem h1]
  simpa [-List.getD_eq_getElem?_getD] using h2
theorem zn6 (w:Wear) (id:Int):zeP w id<(w.Batches.length:Int):=by
 unfold zeP
 cases h:w.Batches.findIdx? (fun b=>decide (b.Id=id)) with
 | none=>simp [-List.getD_eq_getElem?_getD];omega
 | some i=>
  rw [List.findIdx?_eq_some_iff_getElem] at h
  obtain ⟨h1,h2,h3⟩:=h
  simp [-List.getD_eq_getElem?_getD];omega
theorem zfV.sorted {T:Type} [Inhabited T] {ok:T→Prop} {num:T→Int} {l:List T} (h:zfV ok num l):l.Pairwise (fun a b=>num a<num b):=zju num (fun i h0 hi=>(h i hi).2 h0)
theorem zfV.ok {T:Type} [Inhabited T] {ok:T→Prop} {num:T→Int} {l:List T} (h:zfV ok num l) {x:T} (hx:x∈l):ok x:=by
 obtain ⟨i,hi,rfl⟩:=zbV hx
 exact (h i hi).1
theorem zku {w:Wear} (hf:Fits w):Wp (zbK w) (fun r=>(WearOk w∧r=0)∨(¬ WearOk w∧r=64)):=by
 unfold zbK
 have a1:=zga (chk:=zaT) (num:=zco) (fun _=>ziw) (l:=w.Batches) (p1:=8) (by have:=hf.b;omega)
 have a2:=zga (chk:=za8) (num:=zcn) (fun _=>zkw) (l:=w.Mantles) (p1:=60) (by have:=hf.m;omega)
 have a3:=zga (chk:=zbq) (num:=zcm) (fun _=>zmz) (l:=w.Burns) (p1:=60) (by have:=hf.u;omega)
 have a4:=zga (chk:=zaZ) (num:=zcU) (fun _=>zmy) (l:=w.Looks) (p1:=60) (by have:=hf.l;omega)
 refine wp_bind (x:=zb5 w.Batches 8 _ _) a1 (fun y1 h1=>?_)
 refine wp_bind (x:=zbY w.Mantles 60 _ _) a2 (fun y3 h3=>?_)
 refine wp_bind (x:=zcf w.Burns 60 _ _) a3 (fun y5 h5=>?_)
 refine zk2 (Q:=fun y=>y=true↔zfV zkZ (·.Source) w.Looks∧(w.Looks.length:Int)≤60) (fun _=>a4) (fun y7 h7=>?_)
 refine zk2 (Q:=fun y=>y=false↔∀ i,i<w.Mantles.length→∃ j,j<w.Batches.length∧(w.Batches.getD j default).Id=(w.Mantles.getD i default).Batch) (fun _=>?_) (fun y9 h9=>?_)
 · unfold zbt zbG
   rw [zet (p:=fun x0=>zcl x0 w) (q:=fun m=>decide (zeP w m.Batch<0)) (fun x=>by
    unfold zcl;rw [zjo];rfl)]
   refine zaN rfl (zaD ?_)
   cases h:w.Mantles.findIdx? (fun m=>decide (zeP w m.Batch<0)) with
   | none=>
    rw [List.findIdx?_eq_none_iff] at h
    refine ⟨fun _ i hi=>?_,fun _=>rfl⟩
    have:=h _ (zbQ hi)
    simp only [decide_eq_false_iff_not,zhB,Classical.not_not] at this
    exact this
   | some i=>
    rw [List.findIdx?_eq_some_iff_getElem] at h
    obtain ⟨k1,k2,k3⟩:=h
    refine ⟨fun e=>(by simp [-List.getD_eq_getElem?_getD] at e),fun e=>?_⟩
    have:=e i k1
    rw [List.getD_eq_getElem?_getD (l:=w.Mantles),List.getElem?_eq_getElem k1] at this
    simp only [decide_eq_true_eq,zhB] at k2
    exact absurd this k2
 · refine zcs (fun hb=>zaD (.inr ⟨fun V=>?_,rfl⟩)) (fun hb=>zaD (.inl ⟨?_,rfl⟩))
   · have e1:=h1.2 ⟨V.ba,by have:=V.nb;omega⟩
     have e3:=h3.2 ⟨V.ma,by have:=V.nm;omega⟩
     have e5:=h5.2 ⟨V.bu,by have:=V.nu;omega⟩
     have e7:=(h7 (by simp [-List.getD_eq_getElem?_getD,e1,e3,e5])).2 ⟨V.lo,by have:=V.nl;omega⟩
     have e9:=(h9 (by simp [-List.getD_eq_getElem?_getD,e1,e3,e5,e7])).2 V.has
     simp [-List.getD_eq_getElem?_getD,e1,e3,e5,e7,e9] at hb
   · simp only [Bool.or_eq_false_iff,Bool.not_eq_false'] at hb
     obtain ⟨⟨⟨⟨e1,e3⟩,e5⟩,e7⟩,e9⟩:=hb
     have f7:=(h7 (by simp [-List.getD_eq_getElem?_getD,e1,e3,e5])).1 e7
     have f9:=(h9 (by simp [-List.getD_eq_getElem?_getD,e1,e3,e5,e7])).1 e9
     have f1:=h1.1 e1
     have f3:=h3.1 e3
     have f5:=h5.1 e5
     exact ⟨by omega,by omega,by omega,by omega,f1.1,f3.1,f5.1,f7.1,f9⟩
theorem zkv {w:Wear} (h:WearOk w):zbK w=some 0:=by
 obtain ⟨r,e,h1|h1⟩:=zku h.fits
 · rw [e,h1.2]
 · exact absurd h h1.1
theorem zmx {w:Wear} (hf:Fits w) (h:¬ WearOk w):zbK w=some 64:=by
 obtain ⟨r,e,h1|h1⟩:=zku hf
 · exact absurd h1.1 h
 · rw [e,h1.2]
end Go.Sp
end
/- Plain laws, mantle: the document's check; one look more, by both; MantleChecks. No program in sight. -/
section
set_option linter.all false
namespace Go.Sp
open Go.Av
set_option maxRecDepth 100000
end Go.Sp
end
/- Plain laws, mantle: the chapter's examples. -/
section
set_option linter.all false
namespace Go.Sp
open Go.Av
theorem zmV:zds 20000=some true:=by kernel_rfl
end Go.Sp
end
/- Plain laws, mantle: one look more, by both; MantleChecks. No program in sight. -/
section
set_option linter.all false
namespace Go.Sp
open Go.Av
set_option maxRecDepth 100000
theorem cmpI (a b:Int):zaR a b=if a<b then -1 else if b<a then 1 else 0:=by
 unfold zaR cmp_isNaN_int
 by_cases h1:a<b
 · simp [-List.getD_eq_getElem?_getD,h1]
 · by_cases h2:b<a <;> simp [-List.getD_eq_getElem?_getD,h1,h2]
theorem zmj {a b:Int}:zaR a b<0↔a<b:=by rw [cmpI];split <;> (try split) <;> omega
theorem znZ {a b:Int}:zaR a b=0↔a=b:=by rw [cmpI];split <;> (try split) <;> omega
structure InsAt (l:List Look) (x:Look) (k:Nat):Prop where
 le:k≤l.length
 lo:∀ i,i<k→(l.getD i default).Source<x.Source
 hi:∀ i,k≤i→i<l.length→¬ (l.getD i default).Source<x.Source
def znU:Wear:=⟨[],[],[],[]⟩
end Go.Sp
end
/- Plain laws: slices.SortStableFunc on ints ends, and what it leaves is a rearrangement. No program in sight. -/
section
set_option linter.all false
namespace Go.Sp
open Go.Av
set_option maxRecDepth 100000
theorem swap_perm {l s:List Int} (h:s.Perm l) {i j:Int} (hi:0≤i∧i<(s.length:Int)) (hj:0≤j∧j<(s.length:Int)) :
 ((s.set i.toNat (s.getD j.toNat default)).set j.toNat (s.getD i.toNat default)).Perm l:=by
 have h1:i.toNat<s.length:=by omega
 have h2:j.toNat<s.length:=by omega
 rw [List.getD_eq_getElem?_getD,List.getElem?_eq_getElem h2,List.getD_eq_getElem?_getD,List.getElem?_eq_getElem h1]
 exact (List.set_set_perm h1 h2).trans h
theorem half {x:Int} (h:0≤x):Int.fdiv x (2 ^ (1:Int).toNat)=x / 2:=by
 rw [show (1:Int).toNat=1 from rfl,Int.fdiv_eq_ediv_of_nonneg _ (by decide)];rfl
theorem ziv {l s:List Int} (h:s.Perm l) {i:Nat} (hi:i<s.length):s.getD i default∈l:=h.mem_iff.1 (zbQ hi)
def Cmp (l:List Int) (c:Int→Int→Option Int):Prop:=∀ a∈l,∀ b∈l,∃ r,c a b=some r
theorem Cmp.perm {l s:List Int} {c:Int→Int→Option Int} (H:Cmp l c) (h:s.Perm l):Cmp s c:=fun a ha b hb=>H a (h.mem_iff.1 ha) b (h.mem_iff.1 hb)
theorem zhL {fuel:Nat} (hf:1000≤fuel) {l:List Int} (hl:l.length≤100) {c:Int→Int→Option Int} (H:Cmp l c) {a b:Int} (ha:0≤a∧a≤1000) (hb:b≤(l.length:Int)) :
 Wp (zaJ fuel l a b c) (fun r=>r.Perm l):=by
 unfold zaJ
 refine zal (by omega) ?_
 refine wp_loop (fun s=>a<s.1∧s.2.Perm l) (fun s=>(b - s.1).toNat) (by simp only;omega) ⟨by simp only;omega,.refl _⟩ (fun s K hI hK=>?_)
 obtain ⟨i,s⟩:=s
 obtain ⟨h1,h2⟩:=hI
 simp only at h1 h2 hK ⊢
 refine zcy (fun hlt=>?_) (fun _=>zaD h2)
 refine wp_loop (fun t=>a≤t.1∧t.1≤i∧t.2.Perm l) (fun t=>(t.1 - a).toNat) (by simp only;omega) ⟨by simp only;omega,by simp only;omega,h2⟩ (fun t K2 hI2 hK2=>?_)
 obtain ⟨j,t⟩:=t
 obtain ⟨g1,g2,g3⟩:=hI2
 simp only at g1 g2 g3 hK2 ⊢
 have hlen:=g3.length_eq
 refine zax (fun h=>by have:=of_decide_eq_true h;omega) (zax (fun h=>by unfold inI;omega) (zax (fun h=>by have:=of_decide_eq_true h;omega) ?_))
 refine zk2 (Q:=fun _=>True) (fun h=>?_) (fun y _=>?_)
 · have:=of_decide_eq_true h
   obtain ⟨r,e⟩:=H _ (ziv g3 (i:=j.toNat) (by omega)) _ (ziv g3 (i:=(j - 1).toNat) (by omega))
   exact ⟨r,e,trivial⟩
 refine zcs (fun h=>?_) (fun h=>zal (by omega) (hK _ ⟨by simp only;omega,g3⟩ (by simp only;omega)))
 simp only [Bool.and_eq_true,decide_eq_true_eq] at h
 refine zal (by omega) (zal (by omega) (zax (by omega) (zax (by omega) (zax (by omega) (zax (by rw [List.length_set];omega) (zal (by omega) ?_))))))
 exact hK2 _ ⟨by simp only;omega,by simp only;omega,swap_perm g3 (by omega) (by omega)⟩ (by simp only;omega)
theorem zfo {fuel:Nat} (hf:1000≤fuel) {l:List Int} (hl:l.length≤100) {c:Int→Int→Option Int} {a b n:Int} (ha:0≤a) (hb:0≤b) (han:a+n≤(l.length:Int)) (hbn:b+n≤(l.length:Int)) :
 Wp (zaL fuel l a b n c) (fun r=>r.Perm l):=by
 unfold zaL
 refine wp_loop (fun s=>0≤s.1∧s.2.Perm l) (fun s=>(n - s.1).toNat) (by simp only;omega) ⟨by simp [-List.getD_eq_getElem?_getD],.refl _⟩ (fun s K hI hK=>?_)
 obtain ⟨i,s⟩:=s
 obtain ⟨h1,h2⟩:=hI
 simp only at h1 h2 hK ⊢
 have hlen:=h2.length_eq
 refine zcy (fun hlt=>?_) (fun _=>zaD h2)
 refine zal (by omega) (zal (by omega) (zal (by omega) (zax (by omega) (zal (by omega) (zax (by omega) (zax (by omega) (zax (by rw [List.length_set];omega) (zal (by omega) ?_))))))))
 exact hK _ ⟨by simp only;omega,swap_perm h2 (by omega) (by omega)⟩ (by simp only;omega)
theorem zm0 {fuel:Nat} (hf:1000≤fuel) {l:List Int} (hl:l.length≤100) {c:Int→Int→Option Int} {a m b:Int} (ha:0≤a) (ham:a<m) (hmb:m<b) (hb:b≤(l.length:Int)) :
 Wp (za4 fuel l a m b c) (fun r=>r.Perm l):=by
 unfold za4
 refine zal (by omega) (zal (by omega) ?_)
 refine wp_loop (fun s=>1≤s.1∧s.1≤m - a∧1≤s.2.1∧s.2.1≤b - m∧s.2.2.Perm l) (fun s=>(s.1+s.2.1).toNat) (by simp only;omega) ⟨by simp only;omega,by simp only;omega,by simp only;omega,by simp only;omega,.refl _⟩ (fun s K hI hK=>?_)
 obtain ⟨i,j,s⟩:=s
 obtain ⟨h1,h2,h3,h4,h5⟩:=hI
 simp only at h1 h2 h3 h4 h5 hK ⊢
 have hlen:=h5.length_eq
 refine zkg (fun hne=>?_) (fun he=>?_)
 · refine zcy (fun hlt=>?_) (fun hge=>?_)
   · refine zal (by omega) (wp_bind (zfo hf (by omega) (by omega) (by omega) (by omega) (by omega)) (fun y hy=>zax hy.length_eq (zal (by omega) (hK _ ⟨by simp only;omega,by simp only;omega,by simp only;omega,by simp only;omega,hy.trans h5⟩ (by simp only;omega)))))
   · refine zal (by omega) (zal (by omega) (zal (by omega) (wp_bind (zfo hf (by omega) (by omega) (by omega) (by omega) (by omega)) (fun y hy=>zax hy.length_eq (zal (by omega) (hK _ ⟨by simp only;omega,by simp only;omega,by simp only;omega,by simp only;omega,hy.trans h5⟩ (by simp only;omega)))))))
 · exact zal (by omega) (wp_bind (zfo hf (by omega) (by omega) (by omega) (by omega) (by omega)) (fun y hy=>zaD (hy.trans h5)))
theorem zeS {fuel:Nat} (hf:1000≤fuel) {c:Int→Int→Option Int}:∀ (n:Nat) {l:List Int},l.length≤100→Cmp l c→∀ {a m b:Int},0≤a→a<m→m<b→b≤(l.length:Int)→(b - a).toNat<n →
 Wp (zaO fuel n l a m b c) (fun r=>r.Perm l)
 | 0,l,_,_,a,m,b,_,_,_,_,hn=>absurd hn (Nat.not_lt_zero _)
 | n+1,l,hl,H,a,m,b,ha,ham,hmb,hb,hn=>by
  show Wp (zaU fuel (zaO fuel n) l a m b c) _
  unfold zaU
  have hc:∀ i j:Int,0≤i→i<(l.length:Int)→0≤j→j<(l.length:Int)→Wp (c (l.getD i.toNat default) (l.getD j.toNat default)) (fun _=>True):=fun i j h1 h2 h3 h4=>by
   obtain ⟨r,e⟩:=H _ (zbQ (l:=l) (i:=i.toNat) (by omega)) _ (zbQ (l:=l) (i:=j.toNat) (by omega))
   exact ⟨r,e,trivial⟩
  refine zal (by omega) ?_
  refine zcy (fun e1=>?_) (fun e1=>?_)
  · refine wp_loop (fun s=>m≤s.1∧s.1≤s.2∧s.2≤b) (fun s=>(s.2 - s.1).toNat) (by simp only;omega) ⟨by simp only;omega,by simp only;omega,by simp [-List.getD_eq_getElem?_getD]⟩ (fun s K hI hK=>?_)
    obtain ⟨i,j⟩:=s
    obtain ⟨h1,h2,h3⟩:=hI
    simp only at h1 h2 h3 hK ⊢
    refine zcy (fun hlt=>?_) (fun hge=>?_)
    · rw [half (by omega)]
      refine zal (by omega) (zax (by unfold inU;omega) (zal (by omega) (zax (by omega) (zax (by omega) (wp_bind (hc _ _ (by omega) (by omega) (by omega) (by omega)) (fun y _=>?_))))))
      refine zcy (fun _=>zal (by omega) (hK _ ⟨by simp only;omega,by simp only;omega,by simp only;omega⟩ (by simp only;omega))) (fun _=>hK _ ⟨by simp only;omega,by simp only;omega,by simp only;omega⟩ (by simp only;omega))
    · refine wp_loop (fun s=>0≤s.1∧s.2.Perm l) (fun s=>(b - s.1).toNat) (by simp only;omega) ⟨by simp only;omega,.refl _⟩ (fun s K2 hI2 hK2=>?_)
      obtain ⟨k,s⟩:=s
      obtain ⟨g1,g2⟩:=hI2
      simp only at g1 g2 hK2 ⊢
      have hlen:=g2.length_eq
      refine zal (by omega) (zcy (fun hk=>?_) (fun _=>zaD g2))
      refine zal (by omega) (zal (by omega) (zax (by omega) (zax (by omega) (zax (by omega) (zax (by rw [List.length_set];omega) (zal (by omega) ?_))))))
      exact hK2 _ ⟨by simp only;omega,swap_perm g2 (by omega) (by omega)⟩ (by simp only;omega)
  refine zal (by omega) ?_
  refine zcy (fun e2=>?_) (fun e2=>?_)
  · refine wp_loop (fun s=>a≤s.1∧s.1≤s.2∧s.2≤m) (fun s=>(s.2 - s.1).toNat) (by simp only;omega) ⟨by simp [-List.getD_eq_getElem?_getD],by simp only;omega,by simp [-List.getD_eq_getElem?_getD]⟩ (fun s K hI hK=>?_)
    obtain ⟨i,j⟩:=s
    obtain ⟨h1,h2,h3⟩:=hI
    simp only at h1 h2 h3 hK ⊢
    refine zcy (fun hlt=>?_) (fun hge=>?_)
    · rw [half (by omega)]
      refine zal (by omega) (zax (by unfold inU;omega) (zal (by omega) (zax (by omega) (zax (by omega) (wp_bind (hc _ _ (by omega) (by omega) (by omega) (by omega)) (fun y _=>?_))))))
      refine zkg (fun _=>zal (by omega) (hK _ ⟨by simp only;omega,by simp only;omega,by simp only;omega⟩ (by simp only;omega))) (fun _=>hK _ ⟨by simp only;omega,by simp only;omega,by simp only;omega⟩ (by simp only;omega))
    · refine wp_loop (fun s=>s.1≤m∧s.2.Perm l) (fun s=>(s.1 - i).toNat) (by simp only;omega) ⟨by simp [-List.getD_eq_getElem?_getD],.refl _⟩ (fun s K2 hI2 hK2=>?_)
      obtain ⟨k,s⟩:=s
      obtain ⟨g1,g2⟩:=hI2
      simp only at g1 g2 hK2 ⊢
      have hlen:=g2.length_eq
      refine zcy (fun hk=>?_) (fun _=>zaD g2)
      refine zal (by omega) (zal (by omega) (zax (by omega) (zax (by omega) (zax (by omega) (zax (by rw [List.length_set];omega) (zal (by omega) ?_))))))
      exact hK2 _ ⟨by simp only;omega,swap_perm g2 (by omega) (by omega)⟩ (by simp only;omega)
  rw [half (by omega)]
  refine zal (by omega) (zax (by unfold inU;omega) (zal (by omega) (zal (by omega) ?_)))
  have hmid:a<(a+b) / 2∧(a+b) / 2<b:=by omega
  generalize hmd:(a+b) / 2=mid at hmid ⊢
  have hm2:2 * mid≤a+b∧a+b≤2 * mid+1:=by omega
  refine zgq (fun s=>a≤s.1∧mid+m - b≤s.1∧s.1≤s.2∧(s.2=mid∧mid<m∨s.2=m∧m≤mid)) (fun K hK=>?_) (fun s hs=>?_)
  · refine zcy (fun h=>zal (by omega) (hK _ ⟨by simp only;omega,by simp only;omega,by simp only;omega,.inl ⟨rfl,h⟩⟩)) (fun h=>hK _ ⟨by simp [-List.getD_eq_getElem?_getD],by simp only;omega,by simp only;omega,.inr ⟨rfl,by omega⟩⟩)
  obtain ⟨st,r⟩:=s
  obtain ⟨s1,s2,s3,s4⟩:=hs
  simp only at s1 s2 s3 s4 ⊢
  refine zal (by omega) ?_
  refine wp_loop (fun s=>st≤s.1∧s.1≤s.2∧s.2≤r) (fun s=>(s.2 - s.1).toNat) (by simp only;omega) ⟨by simp [-List.getD_eq_getElem?_getD],s3,by simp [-List.getD_eq_getElem?_getD]⟩ (fun s K hI hK=>?_)
  obtain ⟨i,j⟩:=s
  obtain ⟨h1,h2,h3⟩:=hI
  simp only at h1 h2 h3 hK ⊢
  refine zcy (fun hlt=>?_) (fun hge=>?_)
  · rw [half (by omega)]
    refine zal (by omega) (zax (by unfold inU;omega) (zal (by omega) (zal (by omega) (zax (by omega) (zax (by omega) (wp_bind (hc _ _ (by omega) (by omega) (by omega) (by omega)) (fun y _=>?_)))))))
    refine zkg (fun _=>zal (by omega) (hK _ ⟨by simp only;omega,by simp only;omega,by simp only;omega⟩ (by simp only;omega))) (fun _=>hK _ ⟨by simp only;omega,by simp only;omega,by simp only;omega⟩ (by simp only;omega))
  refine zal (by omega) ?_
  refine zgq (fun s=>s.Perm l) (fun K hK=>?_) (fun s hs=>?_)
  · refine zcs (fun h=>?_) (fun h=>hK _ (.refl _))
    simp only [Bool.and_eq_true,decide_eq_true_eq] at h
    exact wp_bind (zm0 hf hl (by omega) (by omega) (by omega) (by omega)) (fun y hy=>zax hy.length_eq (hK _ hy))
  have hsl:=hs.length_eq
  refine zgq (fun s=>s.Perm l) (fun K hK=>?_) (fun t ht=>?_)
  · refine zcs (fun h=>?_) (fun h=>hK _ hs)
    simp only [Bool.and_eq_true,decide_eq_true_eq] at h
    exact wp_bind (zeS hf n (by omega) (H.perm hs) (by omega) (by omega) (by omega) (by omega) (by omega)) (fun y hy=>zax hy.length_eq (hK _ (hy.trans hs)))
  have htl:=ht.length_eq
  refine zcs (fun h=>?_) (fun h=>zaD ht)
  simp only [Bool.and_eq_true,decide_eq_true_eq] at h
  exact wp_bind (zeS hf n (by omega) (H.perm ht) (by omega) (by omega) (by omega) (by omega) (by omega)) (fun y hy=>zaD (hy.trans ht))
theorem zjA {fuel:Nat} (hf:1000≤fuel) {l:List Int} (hl:l.length≤100) {c:Int→Int→Option Int} (H:Cmp l c):Wp (zaE fuel l c) (fun r=>r.Perm l):=by
 unfold zaE
 refine wp_bind (Q:=fun r=>r.Perm l) ?_ (fun y hy=>zaD hy)
 unfold zbs
 refine wp_loop (fun s=>0≤s.1∧s.1+20=s.2.1∧s.1≤(l.length:Int)∧s.2.2.Perm l) (fun s=>(200 - s.1).toNat) (by simp only;omega) ⟨by simp [-List.getD_eq_getElem?_getD],by simp [-List.getD_eq_getElem?_getD],by simp only;omega,.refl _⟩ (fun s K hI hK=>?_)
 obtain ⟨i,j,s⟩:=s
 obtain ⟨h1,h2,h3,h4⟩:=hI
 simp only at h1 h2 h3 h4 hK ⊢
 have hlen:=h4.length_eq
 refine zcy (fun hlt=>?_) (fun hge=>?_)
 · exact wp_bind (zhL hf (by omega) (H.perm h4) (by omega) (by omega)) (fun y hy=>zax hy.length_eq (zal (by omega) (hK _ ⟨by simp only;omega,by simp only,by simp only;omega,hy.trans h4⟩ (by simp only;omega))))
 refine wp_bind (zhL hf (by omega) (H.perm h4) (by omega) (by omega)) (fun y hy=>zax hy.length_eq ?_)
 have hy':=hy.trans h4
 refine wp_loop (fun s=>20≤s.1∧s.1≤200∧s.2.Perm l) (fun s=>(200 - s.1).toNat) (by simp only;omega) ⟨by simp [-List.getD_eq_getElem?_getD],by simp [-List.getD_eq_getElem?_getD],hy'⟩ (fun t K2 hI2 hK2=>?_)
 obtain ⟨bs,t⟩:=t
 obtain ⟨g1,g2,g3⟩:=hI2
 simp only at g1 g2 g3 hK2 ⊢
 refine zcy (fun hbs=>?_) (fun _=>zaD g3)
 refine zal (by omega) ?_
 refine wp_loop (fun s=>0≤s.1∧s.1+2 * bs=s.2.1∧s.1≤(l.length:Int)∧s.2.2.Perm l) (fun s=>(1000 - s.1).toNat - 100) (by simp only;omega) ⟨by simp [-List.getD_eq_getElem?_getD],by simp [-List.getD_eq_getElem?_getD],by simp only;omega,g3⟩ (fun u K3 hI3 hK3=>?_)
 obtain ⟨x,z,u⟩:=u
 obtain ⟨u1,u2,u3,u4⟩:=hI3
 simp only at u1 u2 u3 u4 hK3 ⊢
 have hul:=u4.length_eq
 refine zcy (fun hz=>?_) (fun hz=>?_)
 · exact zal (by omega) (wp_bind (zeS hf fuel (by omega) (H.perm u4) (by omega) (by omega) (by omega) (by omega) (by omega)) (fun y hy=>zax hy.length_eq (zal (by omega) (zal (by omega) (hK3 _ ⟨by simp only;omega,by simp only,by simp only;omega,hy.trans u4⟩ (by simp only;omega))))))
 refine zal (by omega) ?_
 refine zgq (fun s=>s.Perm l) (fun K4 hK4=>?_) (fun v hv=>zal (by omega) (hK2 _ ⟨by simp only;omega,by simp only;omega,hv⟩ (by simp only;omega)))
 refine zcy (fun hx=>?_) (fun hx=>hK4 _ u4)
 exact wp_bind (zeS hf fuel (by omega) (H.perm u4) (by omega) (by omega) (by omega) (by omega) (by omega)) (fun y hy=>zax hy.length_eq (hK4 _ (hy.trans u4)))
end Go.Sp
end
/- Plain laws, mantle: which mantle a lamp has, by both; which burns tell; ages as sums. No program in sight. -/
section
set_option linter.all false
namespace Go.Sp
open Go.Av
set_option maxRecDepth 100000
def mt (w:Wear) (i:Nat):Mantle:=w.Mantles.getD i default
def bn (w:Wear) (i:Nat):Burn:=w.Burns.getD i default
def Cand (w:Wear) (lamp night known:Int) (j:Nat):Prop:=(mt w j).Lamp=lamp∧(mt w j).Night≤night∧zap (mt w j).Known (mt w j).Until known=true
instance (w:Wear) (lamp night known:Int) (j:Nat):Decidable (Cand w lamp night known j):=inferInstanceAs (Decidable (_∧_∧_))
def fitN (w:Wear) (lamp night known:Int):Nat→Int
 | 0=>-1
 | n+1=>if Cand w lamp night known n∧(fitN w lamp night known n<0∨(mt w (fitN w lamp night known n).toNat).Night≤(mt w n).Night) then (n:Int) else fitN w lamp night known n
def fit (w:Wear) (lamp night known:Int):Int:=fitN w lamp night known w.Mantles.length
structure FitIs (w:Wear) (lamp night known:Int) (n:Nat) (i:Nat):Prop where
 lt:i<n
 cand:Cand w lamp night known i
 top:∀ j,j<n→Cand w lamp night known j→(mt w j).Night≤(mt w i).Night∧(i<j→(mt w j).Night<(mt w i).Night)
theorem ziH (w:Wear) (lamp night known:Int):∀ n,(fitN w lamp night known n = -1∧∀ j,j<n→¬ Cand w lamp night known j)∨∃ i:Nat,fitN w lamp night known n=(i:Int)∧FitIs w lamp night known n i
 | 0=>.inl ⟨rfl,fun j hj=>absurd hj (Nat.not_lt_zero _)⟩
 | n+1=>by
  unfold fitN
  rcases ziH w lamp night known n with ⟨e,h⟩|⟨i,e,h⟩
  · rw [e]
    by_cases hc:Cand w lamp night known n
    · rw [if_pos ⟨hc,.inl (by omega)⟩]
      refine .inr ⟨n,rfl,by omega,hc,fun j hj hcj=>?_⟩
      by_cases e:j=n
      · subst e;exact ⟨Int.le_refl _,fun h=>absurd h (Nat.lt_irrefl _)⟩
      · exact absurd hcj (h j (by omega))
    · rw [if_neg (fun h=>hc h.1)]
      refine .inl ⟨rfl,fun j hj=>?_⟩
      by_cases e:j=n
      · rw [e];exact hc
      · exact h j (by omega)
  · rw [e,Int.toNat_natCast]
    by_cases hc:Cand w lamp night known n∧((i:Int)<0∨(mt w i).Night≤(mt w n).Night)
    · rw [if_pos hc]
      have h2:(mt w i).Night≤(mt w n).Night:=hc.2.resolve_left (by omega)
      refine .inr ⟨n,rfl,by omega,hc.1,fun j hj hcj=>?_⟩
      by_cases e:j=n
      · subst e;exact ⟨Int.le_refl _,fun h=>absurd h (Nat.lt_irrefl _)⟩
      · have:=(h.top j (by omega) hcj).1
        exact ⟨by omega,fun h=>by omega⟩
    · rw [if_neg hc]
      refine .inr ⟨i,rfl,by have:=h.lt;omega,h.cand,fun j hj hcj=>?_⟩
      by_cases e:j=n
      · subst e
        have:¬ (mt w i).Night≤(mt w j).Night:=fun h=>hc ⟨hcj,.inr h⟩
        exact ⟨by omega,fun _=>by omega⟩
      · exact h.top j (by omega) hcj
theorem zoF (w:Wear) (lamp night known:Int):(fit w lamp night known = -1∧∀ j,j<w.Mantles.length→¬ Cand w lamp night known j)∨∃ i:Nat,fit w lamp night known=(i:Int)∧FitIs w lamp night known w.Mantles.length i:=ziH w lamp night known _
theorem zo3 (w:Wear) (lamp night known:Int) : -1≤fit w lamp night known∧fit w lamp night known<(w.Mantles.length:Int):=by
 rcases zoF w lamp night known with ⟨e,_⟩|⟨j,e,h⟩
 · omega
 · have:=h.lt;omega
theorem ziG (w:Wear) (lamp night known:Int):zbI w lamp night known=some (fit w lamp night known):=by
 unfold zbI
 refine Wp.eq (zdG (fun i s=>s=fitN w lamp night known i) rfl (fun i s K hi hI hK=>?_) (fun s hs=>zaD hs))
 have hs:=ziH w lamp night known i
 rw [← hI] at hs
 refine zax (fun h=>?_) ?_
 · simp only [Bool.and_eq_true,Bool.not_eq_true',decide_eq_false_iff_not] at h
   rcases hs with ⟨e,_⟩|⟨j,e,hj⟩
   · omega
   · have:=hj.lt;omega
 have e:((((decide ((w.Mantles.getD i default).Lamp=lamp)) && (decide ((w.Mantles.getD i default).Night≤night))) && (zap ((w.Mantles.getD i default).Known) ((w.Mantles.getD i default).Until) known)) && ((decide (s<0)) || (decide ((w.Mantles.getD (s).toNat default).Night≤(w.Mantles.getD i default).Night))))=decide (Cand w lamp night known i∧(s<0∨(mt w s.toNat).Night≤(mt w i).Night)):=by
  rw [Bool.eq_iff_iff]
  simp only [Bool.and_eq_true,Bool.or_eq_true,decide_eq_true_eq,Cand,mt,and_assoc]
 rw [e]
 refine zcy (fun h=>hK _ ?_) (fun h=>hK _ ?_)
 · subst hI;unfold fitN;rw [if_pos h]
 · subst hI;conv=>rhs;unfold fitN
   rw [if_neg h]
def tell (w:Wear) (known:Int) (i:Nat):Bool:=decide (0≤fit w (bn w i).Lamp (bn w i).Night known) && zap (bn w i).Known (bn w i).Until known &&
 decide (∀ k,k<w.Burns.length→i<k→¬ ((bn w k).Lamp=(bn w i).Lamp∧(bn w k).Night=(bn w i).Night∧zap (bn w k).Known (bn w k).Until known=true))
def zcz (P:Nat→Bool) (f:Nat→Int):Nat→Int
 | 0=>0
 | n+1=>zcz P f n+(if P n=true then f n else 0)
theorem zki {P Q:Nat→Bool} {f:Nat→Int}:∀ {n:Nat},(∀ i,i<n→P i=Q i)→zcz P f n=zcz Q f n
 | 0,_=>rfl
 | n+1,h=>by unfold zcz;rw [zki (fun i hi=>h i (by omega)),h n (by omega)]
theorem zig {P Q:Nat→Bool} {f:Nat→Int}:∀ {n:Nat},(∀ i,i<n→0≤f i)→(∀ i,i<n→P i=true→Q i=true)→zcz P f n≤zcz Q f n
 | 0,_,_=>Int.le_refl _
 | n+1,h0,h=>by
  unfold zcz
  have h1:=zig (fun i hi=>h0 i (by omega)) (fun i hi=>h i (by omega)) (P:=P) (Q:=Q) (f:=f) (n:=n)
  have h2:=h0 n (by omega)
  by_cases hp:P n=true
  · rw [if_pos hp,if_pos (h n (by omega) hp)];omega
  · rw [if_neg hp];split <;> omega
theorem zfp {P:Nat→Bool} {f:Nat→Int} {c:Int} (hc:0≤c):∀ {n:Nat},(∀ i,i<n→0≤f i∧f i≤c)→0≤zcz P f n∧zcz P f n≤(n:Int) * c
 | 0,_=>by simp [-List.getD_eq_getElem?_getD,zcz]
 | n+1,h=>by
  unfold zcz
  have h1:=zfp hc (fun i hi=>h i (by omega)) (P:=P) (f:=f) (n:=n)
  have h2:=h n (by omega)
  have:((n+1:Nat):Int) * c=(n:Int) * c+c:=by rw [Int.natCast_add,Int.add_mul];simp [-List.getD_eq_getElem?_getD]
  rw [this]
  split <;> omega
def znx (w:Wear) (known m from_ to:Int) (i:Nat):Bool:=tell w known i && decide (fit w (bn w i).Lamp (bn w i).Night known=m) && (decide (from_<(bn w i).Night) && decide ((bn w i).Night≤to))
def ziW (w:Wear) (known m from_ to:Int):Int:=zcz (znx w known m from_ to) (fun i=>(bn w i).Minutes.Lo) w.Burns.length
def zgi (w:Wear) (known m from_ to:Int):Int:=zcz (znx w known m from_ to) (fun i=>(bn w i).Minutes.Hi) w.Burns.length
end Go.Sp
end
/- Plain laws, mantle: which burns tell, ages, by both; the burns of each mantle. No program in sight. -/
section
set_option linter.all false
namespace Go.Sp
open Go.Av
set_option maxRecDepth 100000
theorem zev {T:Type} [Inhabited T] {p:T→Option Bool} {q:T→Bool} (hp:∀ x,p x=some (q x)) (l:List T) :
 (zan (zaq (fun i1 (s1:Unit) k1=>zan (p (l.getD i1 default)) fun y3=>(bif y3 then some (i1:Int) else k1 ())) (fun (s1:Unit)=>some (-1)) l.length 0 ():Option Int) fun y1=>some (decide (0≤y1)))=some (l.any q):=by
 rw [zet hp l]
 show some _=some _
 congr 1
 cases h:l.findIdx? q with
 | none=>
  rw [List.findIdx?_eq_none_iff] at h
  have:l.any q=false:=by rw [List.any_eq_false];intro x hx;simp [-List.getD_eq_getElem?_getD,h x hx]
  rw [this];rfl
 | some i=>
  rw [List.findIdx?_eq_some_iff_getElem] at h
  obtain ⟨h1,h2,_⟩:=h
  have:l.any q=true:=List.any_eq_true.2 ⟨_,List.getElem_mem h1,h2⟩
  rw [this];simp [-List.getD_eq_getElem?_getD]
def znt (w:Wear) (known:Int) (i k:Nat):Prop:=(bn w k).Lamp=(bn w i).Lamp∧(bn w k).Night=(bn w i).Night∧zap (bn w k).Known (bn w k).Until known=true
theorem zof {w:Wear} {known:Int} {i:Nat}:tell w known i=true↔0≤fit w (bn w i).Lamp (bn w i).Night known∧zap (bn w i).Known (bn w i).Until known=true∧∀ k,k<w.Burns.length→i<k→¬ znt w known i k:=by
 simp only [tell,Bool.and_eq_true,decide_eq_true_eq,and_assoc,znt]
theorem zoP {w:Wear} {known:Int} {i:Nat}:(w.Burns.drop (i+1)).any (fun x0=>zbi x0 (bn w i) known)=true↔∃ k,k<w.Burns.length∧i<k∧znt w known i k:=by
 rw [List.any_eq_true]
 constructor
 · rintro ⟨x,hx,h⟩
   obtain ⟨j,hj,rfl⟩:=zbV hx
   rw [List.length_drop] at hj
   rw [getD_drop] at h
   refine ⟨i+1+j,by omega,by omega,?_⟩
   simp only [zbi,Bool.and_eq_true,decide_eq_true_eq,and_assoc] at h
   exact h
 · rintro ⟨k,hk,hik,h⟩
   refine ⟨bn w k,?_,by simp only [zbi,Bool.and_eq_true,decide_eq_true_eq,and_assoc];exact h⟩
   have:(w.Burns.drop (i+1)).getD (k - (i+1)) default=bn w k:=by rw [getD_drop];unfold bn;congr 1;omega
   rw [← this]
   exact zbQ (by rw [List.length_drop];omega)
theorem zmL {w:Wear} (V:WearOk w) {i:Nat} (hi:i<w.Burns.length):BurnOk (bn w i):=(V.bu i hi).1
theorem sum60 {w:Wear} (V:WearOk w) (P:Nat→Bool) {n:Nat} (hn:n≤w.Burns.length):(0≤zcz P (fun i=>(bn w i).Minutes.Lo) n∧zcz P (fun i=>(bn w i).Minutes.Lo) n≤86400)∧(0≤zcz P (fun i=>(bn w i).Minutes.Hi) n∧zcz P (fun i=>(bn w i).Minutes.Hi) n≤86400):=by
 have nu:=V.nu
 have h1:=zfp (P:=P) (f:=fun i=>(bn w i).Minutes.Lo) (c:=1440) (by decide) (n:=n) (fun i hi=>by have:=(zmL V (i:=i) (by omega)).min;omega)
 have h2:=zfp (P:=P) (f:=fun i=>(bn w i).Minutes.Hi) (c:=1440) (by decide) (n:=n) (fun i hi=>by have:=(zmL V (i:=i) (by omega)).min;omega)
 have:(n:Int) * 1440≤86400:=by omega
 omega
def zhA (w:Wear) (known m:Int) (n:Nat):List Int:=((List.range n).filter (fun i=>tell w known i && decide (fit w (bn w i).Lamp (bn w i).Night known=m))).map (fun i:Nat=>(i:Int))
theorem zjm {w:Wear} {known m:Int} {n:Nat}:zhA w known m (n+1)=if tell w known n=true∧fit w (bn w n).Lamp (bn w n).Night known=m then zhA w known m n++[(n:Int)] else zhA w known m n:=by
 unfold zhA
 rw [List.range_succ,List.filter_append,List.map_append]
 by_cases h:tell w known n=true∧fit w (bn w n).Lamp (bn w n).Night known=m
 · rw [if_pos h]
   simp [-List.getD_eq_getElem?_getD,h]
 · rw [if_neg h]
   have:(tell w known n && decide (fit w (bn w n).Lamp (bn w n).Night known=m))=false:=by
    rw [Bool.and_eq_false_iff,decide_eq_false_iff_not]
    by_cases h1:tell w known n=true
    · exact .inr (fun h2=>h ⟨h1,h2⟩)
    · exact .inl (by simpa [-List.getD_eq_getElem?_getD] using h1)
   simp [-List.getD_eq_getElem?_getD,this]
theorem zg7 {w:Wear} {known m:Int} {n:Nat} {x:Int} (h:x∈zhA w known m n):0≤x∧x<(n:Int):=by
 unfold zhA at h
 rw [List.mem_map] at h
 obtain ⟨i,hi,rfl⟩:=h
 have:=List.mem_range.1 (List.mem_filter.1 hi).1
 omega
theorem ziV (w:Wear) (known m:Int) (n:Nat):(zhA w known m n).length≤n:=by
 unfold zhA
 rw [List.length_map]
 exact Nat.le_trans (List.length_filter_le _ _) (by simp [-List.getD_eq_getElem?_getD])
theorem Mp.zoq {T:Type}:(Mp.empty:Mp T).ok:=⟨List.nodup_nil,rfl,fun k hk=>by cases hk⟩
theorem Mp.ok_set {T:Type} {m:Mp T} (h:m.ok) (hd:∀ k,(m.get k).isSome=true→k∈m.keys) (q:Int) (x:T):(m.set q x).ok∧∀ k,((m.set q x).get k).isSome=true→k∈(m.set q x).keys:=by
 obtain ⟨h1,h2,h3⟩:=h
 unfold Mp.set Mp.ok
 by_cases hq:(m.get q).isSome=true
 · simp only [hq,if_true]
   refine ⟨⟨h1,h2,fun k hk=>?_⟩,fun k hk=>?_⟩
   · by_cases e:k=q
     · rw [if_pos e];rfl
     · rw [if_neg e];exact h3 k hk
   · by_cases e:k=q
     · rw [e];exact hd q hq
     · rw [if_neg e] at hk;exact hd k hk
 · simp only [hq]
   have hnq:q ∉ m.keys:=fun h=>hq (h3 q h)
   refine ⟨⟨?_,by simp [-List.getD_eq_getElem?_getD,h2],fun k hk=>?_⟩,fun k hk=>?_⟩
   · show (m.keys++[q]).Nodup
     rw [List.nodup_append]
     exact ⟨h1,by simp [-List.getD_eq_getElem?_getD],fun a ha b hb=>by
      rw [List.mem_singleton] at hb
      subst hb
      exact fun e=>hnq (e▸ha)⟩
   · by_cases e:k=q
     · rw [if_pos e];rfl
     · rw [if_neg e]
       have:k∈m.keys++[q]:=hk
       rw [List.mem_append,List.mem_singleton] at this
       exact h3 k (this.resolve_right e)
   · show k∈m.keys++[q]
     rw [List.mem_append,List.mem_singleton]
     by_cases e:k=q
     · exact .inr e
     · rw [if_neg e] at hk;exact .inl (hd k hk)
theorem zoR {w:Wear} (V:WearOk w) {fuel:Nat} (hf:1000≤fuel) (known:Int):Wp (zdP fuel w known) (fun mp=>∀ m,((mp.get m).getD default).Perm (zhA w known m w.Burns.length)):=by
 have nu:=V.nu
 unfold zdP
 refine zdG (fun i s=>(s.ok∧∀ k,(s.get k).isSome=true→k∈s.keys)∧∀ m,(s.get m).getD []=zhA w known m i) ⟨⟨Mp.zoq,fun k hk=>by cases hk⟩,fun m=>rfl⟩ (fun i s K hi hI hK=>?_) (fun s hs=>?_)
 · obtain ⟨⟨h1,h2⟩,h3⟩:=hI
   refine zaN (ziG w _ _ known) (zax (fun _=>by omega) ?_)
   refine zk2 (Q:=fun y=>y=(w.Burns.drop (i+1)).any (fun x0=>zbi x0 (bn w i) known)) (fun _=>?_) (fun y6 h6=>?_)
   · have e:(((i:Int)+1)).toNat=i+1:=by omega
     rw [e]
     exact ⟨_,zev (q:=fun x0=>zbi x0 (bn w i) known) (fun x=>rfl) _,rfl⟩
   have e:(((decide (0≤fit w (w.Burns.getD i default).Lamp (w.Burns.getD i default).Night known)) && (zap ((w.Burns.getD i default).Known) ((w.Burns.getD i default).Until) known)) && (!y6))=tell w known i:=by
    rw [Bool.eq_iff_iff,zof]
    simp only [Bool.and_eq_true,Bool.not_eq_true',decide_eq_true_eq,and_assoc,bn]
    refine and_congr_right (fun a1=>and_congr_right (fun a2=>?_))
    have h7:=h6 (by simp only [Bool.and_eq_true,decide_eq_true_eq];exact ⟨a1,a2⟩)
    rw [h7,← Bool.not_eq_true,zoP]
    exact ⟨fun h k hk hik hl=>h ⟨k,hk,hik,hl⟩,fun h ⟨k,hk,hik,hl⟩=>h k hk hik hl⟩
   rw [e]
   have hlen:=ziV w known (fit w (w.Burns.getD i default).Lamp (w.Burns.getD i default).Night known) i
   refine zcs (fun ht=>zcr (by rw [h3];simp [-List.getD_eq_getElem?_getD];omega) (hK _ ⟨Mp.ok_set h1 h2 _ _,fun m=>?_⟩)) (fun ht=>hK _ ⟨⟨h1,h2⟩,fun m=>?_⟩)
   · rw [h3]
     show (if m=_ then some _ else s.get m).getD []=_
     rw [zjm]
     by_cases e1:m=fit w (bn w i).Lamp (bn w i).Night known
     · have e2:tell w known i=true∧fit w (bn w i).Lamp (bn w i).Night known=m:=⟨ht,e1.symm⟩
       rw [if_pos e2,e1]
       exact congrArg (fun z=>Option.getD z []) (if_pos rfl)
     · have e2:¬ (tell w known i=true∧fit w (bn w i).Lamp (bn w i).Night known=m):=fun h=>e1 h.2.symm
       rw [if_neg e2,← h3 m]
       exact congrArg (fun z=>Option.getD z []) (if_neg e1)
   · rw [zjm,if_neg (fun h=>by rw [ht] at h;cases h.1),h3]
 · obtain ⟨⟨h1,h2⟩,h3⟩:=hs
   refine zax h1 ?_
   have hsort:∀ m,Wp (zaE fuel ((s.get m).getD []) (fun x0 x1=>zbA x0 x1 w)) (fun r=>r.Perm ((s.get m).getD [])):=fun m=>by
    have hl:=ziV w known m w.Burns.length
    refine zjA hf (by rw [h3];omega) (fun a ha b hb=>?_)
    rw [h3] at ha hb
    have a1:=zg7 ha
    have b1:=zg7 hb
    unfold zbA
    rw [zgV a1,zgV b1]
    exact ⟨_,rfl⟩
   have hrow:∀ m,Wp (zan (zaE fuel ((s.get m).getD []) (fun x0 x1=>zbA x0 x1 w)) fun y13=>must (y13.length=((s.get m).getD []).length) (some y13)) (fun r=>r.Perm ((s.get m).getD [])):=fun m=>wp_bind (hsort m) (fun y hy=>zax hy.length_eq (zaD hy))
   refine wp_bind (Q:=fun y=>∀ m,((y.get m).getD default).Perm (zhA w known m w.Burns.length)) ?_ (fun y hy=>zaD hy)
   unfold Mp.zl3
   have hall:s.keys.all (fun k=>((fun (l11:List Int)=>zan (zaE fuel l11 (fun x0 x1=>zbA x0 x1 w)) fun y13=>must (y13.length=l11.length) (some y13)) ((s.get k).getD default)).isSome)=true:=by
    rw [List.all_eq_true]
    intro k _
    obtain ⟨r,e,_⟩:=hrow k
    show (zan (zaE fuel ((s.get k).getD []) (fun x0 x1=>zbA x0 x1 w)) fun y13=>must (y13.length=((s.get k).getD []).length) (some y13)).isSome=true
    rw [e];rfl
   rw [hall]
   refine zaD (fun m=>?_)
   rw [← h3]
   obtain ⟨r,e,hr⟩:=hrow m
   cases hm:s.get m with
   | none=>simp only [hm];exact .refl _
   | some l=>
    rw [hm] at e hr
    simp only [Option.getD_some,hm] at e hr ⊢
    rw [e];exact hr
end Go.Sp
end
/- Plain laws, mantle: the closet: which lives each batch may have. No program in sight. -/
section
set_option linter.all false
namespace Go.Sp
open Go.Av
set_option maxRecDepth 100000
def lsum (g:Int→Int):List Int→Int
 | []=>0
 | x::l=>g x+lsum g l
theorem znl {g:Int→Int} {l r:List Int} (h:l.Perm r):lsum g l=lsum g r:=by
 induction h with
 | nil=>rfl
 | cons x _ ih=>unfold lsum;rw [ih]
 | swap x y l=>unfold lsum;unfold lsum;omega
 | trans _ _ h1 h2=>rw [h1,h2]
theorem zfB {g:Int→Int} (l:List Int) (x:Int):lsum g (l++[x])=lsum g l+g x:=by
 induction l with
 | nil=>simp [-List.getD_eq_getElem?_getD,lsum]
 | cons y l ih=>rw [List.cons_append];unfold lsum;rw [ih];omega
theorem zjg {g:Int→Int} {c:Int} (hc:0≤c):∀ {l:List Int},(∀ x∈l,0≤g x∧g x≤c)→0≤lsum g l∧lsum g l≤(l.length:Int) * c
 | [],_=>by simp [-List.getD_eq_getElem?_getD,lsum]
 | x::l,h=>by
  unfold lsum
  have h1:=zjg hc (fun y hy=>h y (List.mem_cons_of_mem _ hy)) (g:=g) (l:=l)
  have h2:=h x (List.mem_cons_self ..)
  have:((x::l).length:Int) * c=(l.length:Int) * c+c:=by rw [List.length_cons,Int.natCast_add,Int.add_mul];simp [-List.getD_eq_getElem?_getD]
  rw [this];omega
theorem zjf {P:Nat→Bool} {g:Int→Int}:∀ {n:Nat},lsum g (((List.range n).filter P).map (fun i:Nat=>(i:Int)))=zcz P (fun i=>g i) n
 | 0=>rfl
 | n+1=>by
  rw [List.range_succ,List.filter_append,List.map_append]
  unfold zcz
  rw [← zjf]
  by_cases h:P n=true
  · rw [if_pos h]
    have:(List.filter P [n]).map (fun i:Nat=>(i:Int))=[(n:Int)]:=by simp [-List.getD_eq_getElem?_getD,h]
    rw [this,zfB]
  · rw [if_neg h]
    have:(List.filter P [n]).map (fun i:Nat=>(i:Int))=[]:=by simp [-List.getD_eq_getElem?_getD,h]
    rw [this,List.append_nil,Int.add_zero]
theorem zja {P Q:Nat→Bool} {f:Nat→Int}:∀ {n:Nat},zcz P (fun i=>if Q i=true then f i else 0) n=zcz (fun i=>P i && Q i) f n
 | 0=>rfl
 | n+1=>by
  unfold zcz
  rw [zja]
  cases hp:P n <;> cases hq:Q n <;> simp [-List.getD_eq_getElem?_getD]
structure CoatOk (w:Wear) (known:Int) (m:Nat) (S:List mantle_sight) (c:mantle_coat):Prop where
 wear:c.w=w
 burns:c.burns.Perm (zhA w known m w.Burns.length)
 sights:c.sights=S
theorem zfn {T:Type} [Inhabited T] {l:List T} {i:Nat} (h:i<l.length):l.take (i+1)=l.take i++[l.getD i default]:=by
 rw [List.take_add_one,List.getElem?_eq_getElem h,List.getD_eq_getElem?_getD,List.getElem?_eq_getElem h];rfl
theorem zlI {w:Wear} (V:WearOk w) {known:Int} {m:Nat} {S:List mantle_sight} {c:mantle_coat} (hc:CoatOk w known m S c) (f t:Int):zbe c f t=some ⟨ziW w known m f t,zgi w known m f t⟩:=by
 have nu:=V.nu
 unfold zbe
 rw [hc.wear]
 have hlen:c.burns.length≤60:=by have:=hc.burns.length_eq;have:=ziV w known m w.Burns.length;omega
 have hin:∀ i,i<c.burns.length→0≤c.burns.getD i default∧c.burns.getD i default<(w.Burns.length:Int):=fun i hi=>zg7 (hc.burns.mem_iff.1 (zbQ hi))
 let g:(Burn→Int)→Int→Int:=fun F x=>if f<(bn w x.toNat).Night∧(bn w x.toNat).Night≤t then F (bn w x.toNat) else 0
 have hL:∀ F,(∀ b,BurnOk b→0≤F b∧F b≤1440)→∀ i,0≤lsum (g F) (c.burns.take i)∧lsum (g F) (c.burns.take i)≤86400:=fun F hF i=>by
  have:=zjg (g:=g F) (c:=1440) (by decide) (l:=c.burns.take i) (fun x hx=>by
   have hx':=zg7 (hc.burns.mem_iff.1 (List.mem_of_mem_take hx))
   have:=hF _ (zmL V (i:=x.toNat) (by omega))
   simp only [g]
   split <;> omega)
  have h2:(c.burns.take i).length≤60:=by rw [List.length_take];omega
  omega
 have hlo:∀ b,BurnOk b→0≤b.Minutes.Lo∧b.Minutes.Lo≤1440:=fun b hb=>by have:=hb.min;omega
 have hhi:∀ b,BurnOk b→0≤b.Minutes.Hi∧b.Minutes.Hi≤1440:=fun b hb=>by have:=hb.min;omega
 refine Wp.eq (zdG (fun i s=>s=⟨lsum (g (·.Minutes.Lo)) (c.burns.take i),lsum (g (·.Minutes.Hi)) (c.burns.take i)⟩) rfl (fun i s K hi hI hK=>?_) (fun s hs=>zaD ?_))
 · subst hI
   have a:=hin i hi
   have b1:=hL _ hlo i
   have b2:=hL _ hhi i
   have hb:=(zmL V (i:=(c.burns.getD i default).toNat) (by omega)).min
   refine zax a ?_
   have e:((decide (f<(w.Burns.getD ((c.burns.getD i default)).toNat default).Night)) && (decide ((w.Burns.getD ((c.burns.getD i default)).toNat default).Night≤t)))=decide (f<(bn w (c.burns.getD i default).toNat).Night∧(bn w (c.burns.getD i default).toNat).Night≤t):=by
    rw [Bool.decide_and];rfl
   rw [e]
   unfold bn at hb
   refine zcy (fun h=>zal (by simp only;omega) (zal (by simp only;omega) (hK _ ?_))) (fun h=>hK _ ?_)
   · rw [zfn hi,zfB,zfB]
     simp only [g]
     rw [if_pos h,if_pos h];rfl
   · rw [zfn hi,zfB,zfB]
     simp only [g]
     rw [if_neg h,if_neg h,Int.add_zero,Int.add_zero]
 · rw [hs,List.take_length]
   have key:∀ F:Burn→Int,lsum (g F) c.burns=zcz (znx w known m f t) (fun i=>F (bn w i)) w.Burns.length:=fun F=>by
    rw [znl hc.burns]
    unfold zhA
    rw [zjf]
    have:(fun i:Nat=>g F (i:Int))=fun i:Nat=>if (decide (f<(bn w i).Night) && decide ((bn w i).Night≤t))=true then F (bn w i) else 0:=by
     funext i
     simp only [g,Int.toNat_natCast,Bool.and_eq_true,decide_eq_true_eq]
    rw [this,zja]
    rfl
   have k1:=key (fun b=>b.Minutes.Lo)
   have k2:=key (fun b=>b.Minutes.Hi)
   show Range.mk _ _=Range.mk _ _
   rw [k1,k2];rfl
structure Ends (S:List mantle_sight) (g b:Int):Prop where
 top:∀ x∈S,x.bad=false→x.night≤g
 good:g = -1∨∃ x∈S,x.bad=false∧x.night=g
 low:∀ x∈S,x.bad=true→b ≠ -1∧b≤x.night
 bad:b = -1∨∃ x∈S,x.bad=true∧x.night=b
 g0 : -1≤g
 b0 : -1≤b
theorem Ends.uniq {S:List mantle_sight} {g b g' b':Int} (h:Ends S g b) (h':Ends S g' b'):g=g'∧b=b':=by
 constructor
 · rcases h.good with e|⟨x,hx,h1,h2⟩ <;> rcases h'.good with e'|⟨y,hy,h3,h4⟩
   · omega
   · have:=h.top y hy h3;have:=h'.g0;have:=h.g0;omega
   · have:=h'.top x hx h1;have:=h'.g0;have:=h.g0;omega
   · have:=h.top y hy h3;have:=h'.top x hx h1;omega
 · rcases h.bad with e|⟨x,hx,h1,h2⟩ <;> rcases h'.bad with e'|⟨y,hy,h3,h4⟩
   · omega
   · exact absurd e (h.low y hy h3).1
   · exact absurd e' (h'.low x hx h1).1
   · have:=(h.low y hy h3).2;have:=(h'.low x hx h1).2;omega
theorem znT (c:mantle_coat) (hn:∀ x∈c.sights,0≤x.night):Wp (zb8 c) (fun r=>Ends c.sights r.1 r.2):=by
 unfold zb8
 refine zdG (fun i s=>Ends (c.sights.take i) s.1 s.2) ⟨fun x hx=>by simp [-List.getD_eq_getElem?_getD] at hx,.inl rfl,fun x hx=>by simp [-List.getD_eq_getElem?_getD] at hx,.inl rfl,by decide,by decide⟩ (fun i s K hi hI hK=>?_) (fun s hs=>zaD (by rw [List.take_length] at hs;exact hs))
 obtain ⟨g,b⟩:=s
 obtain ⟨h1,h2,h3,h4,h5,h6⟩:=hI
 simp only at h1 h2 h3 h4 h5 h6 ⊢
 have e:c.sights.getD i default=c.sights.getD i default:=rfl
 have hm:=zbQ hi
 have h0:=hn _ hm
 generalize hx:c.sights.getD i default=x at hm h0 ⊢
 have hmem:∀ y,y∈c.sights.take (i+1)↔y∈c.sights.take i∨y=x:=fun y=>by rw [zfn hi,hx];simp [-List.getD_eq_getElem?_getD]
 refine zcs (fun hb=>hK _ ?_) (fun hb=>?_)
 · have hb':x.bad=false:=by simpa [-List.getD_eq_getElem?_getD] using hb
   refine ⟨fun y hy hyb=>?_,?_,fun y hy hyb=>?_,?_,?_,h6⟩
   · rcases (hmem y).1 hy with hy|rfl
     · have:=h1 y hy hyb;simp only;omega
     · simp only;omega
   · simp only
     rcases Int.le_total g x.night with hle|hle
     · exact .inr ⟨x,(hmem x).2 (.inr rfl),hb',by omega⟩
     · rcases h2 with e|⟨y,hy,y1,y2⟩
       · exact .inr ⟨x,(hmem x).2 (.inr rfl),hb',by omega⟩
       · exact .inr ⟨y,(hmem y).2 (.inl hy),y1,by omega⟩
   · rcases (hmem y).1 hy with hy|rfl
     · exact h3 y hy hyb
     · rw [hb'] at hyb;cases hyb
   · rcases h4 with e|⟨y,hy,y1,y2⟩
     · exact .inl e
     · exact .inr ⟨y,(hmem y).2 (.inl hy),y1,y2⟩
   · simp only;omega
 · have hb':x.bad=true:=by simpa [-List.getD_eq_getElem?_getD] using hb
   refine zcs (fun hc=>hK _ ?_) (fun hc=>hK _ ?_)
   · simp only [Bool.or_eq_true,decide_eq_true_eq] at hc
     refine ⟨fun y hy hyb=>?_,?_,fun y hy hyb=>?_,.inr ⟨x,(hmem x).2 (.inr rfl),hb',rfl⟩,h5,by simp only;omega⟩
     · rcases (hmem y).1 hy with hy|rfl
       · exact h1 y hy hyb
       · rw [hb'] at hyb;cases hyb
     · rcases h2 with e|⟨y,hy,y1,y2⟩
       · exact .inl e
       · exact .inr ⟨y,(hmem y).2 (.inl hy),y1,y2⟩
     · simp only
       rcases (hmem y).1 hy with hy|rfl
       · have:=h3 y hy hyb;omega
       · omega
   · simp only [Bool.or_eq_false_iff,decide_eq_false_iff_not] at hc
     refine ⟨fun y hy hyb=>?_,?_,fun y hy hyb=>?_,?_,h5,h6⟩
     · rcases (hmem y).1 hy with hy|rfl
       · exact h1 y hy hyb
       · rw [hb'] at hyb;cases hyb
     · rcases h2 with e|⟨y,hy,y1,y2⟩
       · exact .inl e
       · exact .inr ⟨y,(hmem y).2 (.inl hy),y1,y2⟩
     · rcases (hmem y).1 hy with hy|rfl
       · exact h3 y hy hyb
       · simp only;omega
     · rcases h4 with e|⟨y,hy,y1,y2⟩
       · exact .inl e
       · exact .inr ⟨y,(hmem y).2 (.inl hy),y1,y2⟩
theorem zmP {w:Wear} (V:WearOk w) {known m f t t':Int} (h:t≤t'):ziW w known m f t≤ziW w known m f t':=by
 refine zig (fun i hi=>by have:=(zmL V hi).min;omega) (fun i hi hp=>?_)
 simp only [znx,Bool.and_eq_true,decide_eq_true_eq] at hp ⊢
 exact ⟨hp.1,hp.2.1,by omega⟩
theorem zjs {w:Wear} (V:WearOk w) {known m f f' t t':Int} (h:t≤t') (hf:f'≤f):zgi w known m f t≤zgi w known m f' t':=by
 refine zig (fun i hi=>by have:=(zmL V hi).min;omega) (fun i hi hp=>?_)
 simp only [znx,Bool.and_eq_true,decide_eq_true_eq] at hp ⊢
 exact ⟨hp.1,by omega,by omega⟩
theorem zkW {w:Wear} (V:WearOk w) (known m f t:Int):(0≤ziW w known m f t∧ziW w known m f t≤86400)∧(0≤zgi w known m f t∧zgi w known m f t≤86400):=sum60 V _ (Nat.le_refl _)
structure OkBy (w:Wear) (known m:Int) (S:List mantle_sight) (x:Int):Prop where
 range:0≤x∧x≤1000000
 good:∀ s∈S,s.bad=false→ziW w known m (-1) s.night≤x
 bad:∀ s∈S,s.bad=true→x<zgi w known m (-1) s.night
 two:∀ s∈S,∀ t∈S,s.bad=false→t.bad=true→s.night<t.night∧0<zgi w known m s.night t.night
def zjG (w:Wear) (known m g b:Int):Range:=
 if g ≠ -1∧b ≠ -1∧(b≤g∨zgi w known m g b=0) then ⟨1,0⟩ else ⟨if g ≠ -1 then ziW w known m (-1) g else 0,if b ≠ -1 then min 1000000 (zgi w known m (-1) b - 1) else 1000000⟩
def inR (r:Range) (x:Int):Prop:=r.Lo≤x∧x≤r.Hi
theorem zou {w:Wear} (V:WearOk w) {known:Int} {m:Nat} {S:List mantle_sight} {c:mantle_coat} (hc:CoatOk w known m S c) (hn:∀ x∈S,0≤x.night) {g b:Int} (he:Ends S g b):zbm c=some (zjG w known m g b):=by
 unfold zbm
 obtain ⟨r,e,hr⟩:=znT c (by rw [hc.sights];exact hn)
 rw [hc.sights] at hr
 obtain ⟨e1,e2⟩:=hr.uniq he
 have er:r=(g,b):=Prod.ext e1 e2
 subst er
 refine Wp.eq (zaN e ?_)
 have hb:=zkW V known m
 unfold zjG
 refine zgq (fun s=>s=if g ≠ -1 then ziW w known m (-1) g else 0) (fun K hK=>?_) (fun s hs=>?_)
 · refine zkg (fun h=>zaN (zlI V hc _ _) (hK _ ?_)) (fun h=>hK _ ?_)
   · rw [if_pos h]
   · rw [if_neg (by omega)]
 subst hs
 refine zgq (fun s=>s=if b ≠ -1 then min 1000000 (zgi w known m (-1) b - 1) else 1000000) (fun K hK=>?_) (fun s hs=>?_)
 · refine zkg (fun h=>zaN (zlI V hc _ _) (zal (by have:=hb (-1) b;simp only;omega) (hK _ ?_))) (fun h=>hK _ ?_)
   · rw [if_pos h]
   · rw [if_neg (by omega)]
 subst hs
 refine zk2 (Q:=fun y=>y=⟨ziW w known m g b,zgi w known m g b⟩) (fun _=>⟨_,zlI V hc _ _,rfl⟩) (fun y hy=>?_)
 simp only [Bool.and_eq_true,Bool.not_eq_true',decide_eq_false_iff_not] at hy
 refine zcs (fun h=>zaD ?_) (fun h=>zaD ?_)
 · simp only [Bool.and_eq_true,Bool.or_eq_true,Bool.not_eq_true',decide_eq_false_iff_not,decide_eq_true_eq] at h
   obtain ⟨⟨h1,h2⟩,h3⟩:=h
   have:b≤g∨zgi w known m g b=0:=by
    rcases h3 with h3|h3
    · exact .inl h3
    · by_cases h4:b≤g
      · exact .inl h4
      · rw [hy ⟨⟨h1,h2⟩,h4⟩] at h3;exact .inr h3
   rw [if_pos ⟨h1,h2,this⟩]
 · have:¬ (g ≠ -1∧b ≠ -1∧(b≤g∨zgi w known m g b=0)):=by
    rintro ⟨h1,h2,h3⟩
    have h5:(((!decide (g=(-1))) && (!decide (b=(-1)))) && ((decide (b≤g)) || (decide (y.Hi=0))))=true:=by
     simp only [Bool.and_eq_true,Bool.or_eq_true,Bool.not_eq_true',decide_eq_false_iff_not,decide_eq_true_eq]
     refine ⟨⟨h1,h2⟩,?_⟩
     by_cases h4:b≤g
     · exact .inl h4
     · rw [hy ⟨⟨h1,h2⟩,h4⟩];exact .inr (h3.resolve_left h4)
    rw [h5] at h;cases h
   rw [if_neg this]
theorem znn {w:Wear} (V:WearOk w) {known m:Int} {S:List mantle_sight} (hn:∀ x∈S,0≤x.night) {g b:Int} (he:Ends S g b) (x:Int):inR (zjG w known m g b) x↔OkBy w known m S x:=by
 have hb:=zkW V known m
 unfold zjG
 by_cases hc:g ≠ -1∧b ≠ -1∧(b≤g∨zgi w known m g b=0)
 · rw [if_pos hc]
   obtain ⟨c1,c2,c3⟩:=hc
   refine ⟨fun h=>by have:=h.1;have:=h.2;simp only at *;omega,fun h=>?_⟩
   obtain ⟨s,hs,s1,s2⟩:=he.good.resolve_left c1
   obtain ⟨t,ht,t1,t2⟩:=he.bad.resolve_left c2
   have:=h.two s hs t ht s1 t1
   rw [s2,t2] at this
   omega
 · rw [if_neg hc]
   unfold inR
   simp only
   constructor
   · rintro ⟨h1,h2⟩
     refine ⟨?_,fun s hs sb=>?_,fun s hs sb=>?_,fun s hs t ht sb tb=>?_⟩
     · have:=hb (-1) g;have:=hb (-1) b
       constructor
       · split at h1 <;> omega
       · split at h2 <;> omega
     · have a:=he.top s hs sb
       have a0:=hn s hs
       rw [if_pos (by omega)] at h1
       have:=zmP V (known:=known) (m:=m) (f:=-1) a
       omega
     · have a:=he.low s hs sb
       rw [if_pos a.1] at h2
       have:=zjs V (known:=known) (m:=m) (f:=-1) a.2 (Int.le_refl _)
       omega
     · have a:=he.top s hs sb
       have a0:=hn s hs
       have a2:=he.low t ht tb
       have:¬ (b≤g∨zgi w known m g b=0):=fun h=>hc ⟨by omega,a2.1,h⟩
       have h3:0<zgi w known m g b:=by have:=hb g b;omega
       have h4:=zjs V (known:=known) (m:=m) (f:=g) (f':=s.night) a2.2 a
       exact ⟨by omega,by omega⟩
   · intro h
     have hr:=h.range
     constructor
     · by_cases c1:g ≠ -1
       · rw [if_pos c1]
         obtain ⟨s,hs,s1,s2⟩:=he.good.resolve_left c1
         rw [← s2];exact h.good s hs s1
       · rw [if_neg c1];exact hr.1
     · by_cases c2:b ≠ -1
       · rw [if_pos c2]
         obtain ⟨t,ht,t1,t2⟩:=he.bad.resolve_left c2
         have:=h.bad t ht t1
         rw [t2] at this;omega
       · rw [if_neg c2];exact hr.2
theorem zpr (S:List mantle_sight) (hn:∀ x∈S,0≤x.night):∃ g b,Ends S g b:=by
 obtain ⟨r,_,h⟩:=znT ⟨znU,[],S⟩ hn
 exact ⟨_,_,h⟩
theorem zo9 {c:mantle_coat} {w:Wear} {known:Int} {m:Nat} {S:List mantle_sight} (hc:CoatOk w known m S c) (x:mantle_sight) (hl:S.length≤1000000):Wp (zbx c x) (fun r=>CoatOk w known m (S++[x]) r):=by
 unfold zbx zbD
 have e:=hc.sights
 refine wp_bind (Q:=fun y=>y=S) (zcr (by rw [e];simp [-List.getD_eq_getElem?_getD];omega) (zaD (by rw [e];simp [-List.getD_eq_getElem?_getD]))) (fun y hy=>?_)
 subst hy
 exact zcr (by simp [-List.getD_eq_getElem?_getD];omega) (zaD ⟨hc.wear,hc.burns,rfl⟩)
end Go.Sp
end
/- Plain laws, mantle: the closet that hang fills. No program in sight. -/
section
set_option linter.all false
namespace Go.Sp
open Go.Av
set_option maxRecDepth 100000
def ba (w:Wear) (i:Nat):Batch:=w.Batches.getD i default
def bat (w:Wear) (i:Nat):Int:=zeP w (mt w i).Batch
theorem bat_ok {w:Wear} (V:WearOk w) {i:Nat} (hi:i<w.Mantles.length):0≤bat w i∧bat w i<(w.Batches.length:Int):=by
 refine ⟨?_,zn6 w _⟩
 rcases Int.lt_or_le (bat w i) 0 with h|h
 · exact absurd (V.has i hi) (zhB.1 h)
 · exact h
structure Hung (w:Wear) (known:Int) (S:Nat→List mantle_sight) (c:mantle_closet):Prop where
 wear:c.w=w
 asof:c.known=known
 coats:∀ i:Nat,i<w.Mantles.length→∃ x,c.coats.get (i:Int)=some x∧CoatOk w known i (S i) x
 len:c.lives.length=w.Batches.length
 lives:∀ b:Nat,b<w.Batches.length→∀ x,inR (c.lives.getD b default) x↔inR (ba w b).Life x∧∀ i,i<w.Mantles.length→bat w i=(b:Int)→OkBy w known i (S i) x
 nights:∀ i,i<w.Mantles.length→∀ s∈S i,0≤s.night
 few:∀ i,i<w.Mantles.length→(S i).length≤1000
def lk (l:List Look) (i:Nat):Look:=l.getD i default
def zcY (w:Wear) (known:Int) (l:List Look) (m:Nat):Nat→List mantle_sight
 | 0=>[]
 | n+1=>if fit w (lk l n).Lamp (lk l n).Night known=(m:Int)∧zap (lk l n).Known (lk l n).Until known=true then zcY w known l m n++[⟨(lk l n).Night,(lk l n).Bad⟩] else zcY w known l m n
def sights (w:Wear) (known:Int) (l:List Look) (m:Nat):List mantle_sight:=zcY w known l m l.length
theorem zeU {w:Wear} {known:Int} {l:List Look} {m:Nat} {s:mantle_sight}:∀ {n:Nat},s∈zcY w known l m n↔∃ i,i<n∧fit w (lk l i).Lamp (lk l i).Night known=(m:Int)∧zap (lk l i).Known (lk l i).Until known=true∧s=⟨(lk l i).Night,(lk l i).Bad⟩
 | 0=>⟨fun h=>(by cases h),fun ⟨i,hi,_⟩=>absurd hi (Nat.not_lt_zero _)⟩
 | n+1=>by
  unfold zcY
  by_cases hc:fit w (lk l n).Lamp (lk l n).Night known=(m:Int)∧zap (lk l n).Known (lk l n).Until known=true
  · rw [if_pos hc,List.mem_append,List.mem_singleton,zeU]
    constructor
    · rintro (⟨i,hi,h⟩|h)
      · exact ⟨i,by omega,h⟩
      · exact ⟨n,by omega,hc.1,hc.2,h⟩
    · rintro ⟨i,hi,h⟩
      by_cases e:i=n
      · subst e;exact .inr h.2.2
      · exact .inl ⟨i,by omega,h⟩
  · rw [if_neg hc,zeU]
    constructor
    · rintro ⟨i,hi,h⟩;exact ⟨i,by omega,h⟩
    · rintro ⟨i,hi,h⟩
      by_cases e:i=n
      · subst e;exact absurd ⟨h.1,h.2.1⟩ hc
      · exact ⟨i,by omega,h⟩
theorem zgv {w:Wear} {known:Int} {l:List Look} {m:Nat}:∀ n,(zcY w known l m n).length≤n
 | 0=>by simp [-List.getD_eq_getElem?_getD,zcY]
 | n+1=>by
  unfold zcY
  have:=zgv (w:=w) (known:=known) (l:=l) (m:=m) n
  split
  · simp [-List.getD_eq_getElem?_getD];omega
  · omega
theorem zoS {a b:Range} {x:Int}:inR (zaS a b) x↔inR a x∧inR b x:=by
 unfold zaS inR;simp only;omega
theorem zps (c:mantle_closet) (hl:c.w.Mantles.length≤60):zbB c=some ((List.range' 0 c.w.Mantles.length).map (fun i:Nat=>((i:Int),(c.coats.get (i:Int)).getD default))):=by
 unfold zbB
 rw [zgV (by omega),zmJ (fun _=>true) (fun i:Nat=>((i:Int),(c.coats.get (i:Int)).getD default)) (fun i r hi=>rfl)]
 rw [List.filter_eq_self.2 (fun _ _=>rfl)]
theorem zo8 {A S R:Type} {body:A→S→(S→Option R)→Option R} {ex:S→Option R} {s0:S} {P:R→Prop} (n:Nat) (f:Nat→A) (Inv:Nat→S→Prop) (h0:Inv 0 s0)
 (hb:∀ (j:Nat) s (K:S→Option R),j<n→Inv j s→(∀ s',Inv (j+1) s'→Wp (K s') P)→Wp (body (f j) s K) P) (he:∀ s,Inv n s→Wp (ex s) P):Wp (zhI body ex ((List.range' 0 n).map f) s0) P:=by
 have go:∀ (m j:Nat),j+m=n→∀ s,Inv j s→Wp (zhI body ex ((List.range' j m).map f) s) P:=by
  intro m
  induction m with
  | zero=>intro j hj s hs;have e:j=n:=(by omega);subst e;exact he s hs
  | succ m ih=>
   intro j hj s hs
   rw [List.range'_succ,List.map_cons]
   exact hb j s _ (by omega) hs (fun s' h'=>ih (j+1) (by omega) s' h')
 exact go n 0 (by omega) s0 h0
theorem zna {c:mantle_closet} {b:Nat} (hb:b<c.lives.length) (r:Range):zbn c (b:Int) r=some ⟨c.w,c.known,c.coats,c.lives.set b (zaS (c.lives.getD b default) r)⟩:=by
 unfold zbn
 rw [zgV (by omega),zgV (by omega)]
 rfl
theorem Mp.zjP {T:Type} (m:Mp T) (k j:Int) (x:T):(m.set k x).get j=if j=k then some x else m.get j:=rfl
theorem znz {w:Wear} (V:WearOk w) {fuel:Nat} (hf:1000≤fuel) {l:List Look} (hl:l.length≤1000) (hn:∀ x∈l,0≤x.Night) (known:Int):Wp (zbw fuel w l known) (fun c=>Hung w known (sights w known l) c):=by
 have nm:=V.nm;have nb:=V.nb
 unfold zbw
 refine wp_bind (zoR V hf known) (fun y1 hy1=>zax (by omega) ?_)
 refine zdG (fun i s=>∀ j:Nat,j<i→∃ x,s.get (j:Int)=some x∧CoatOk w known j [] x) (fun j hj=>absurd hj (Nat.not_lt_zero _)) (fun i s K hi hI hK=>hK _ (fun j hj=>?_)) (fun s3 h3=>?_)
 · by_cases e:j=i
   · subst e
     exact ⟨_,by rw [Mp.zjP,if_pos rfl],rfl,hy1 _,rfl⟩
   · rw [Mp.zjP,if_neg (by omega)]
     exact hI j (by omega)
 refine zdG (fun i s=>∀ j:Nat,j<w.Mantles.length→∃ x,s.get (j:Int)=some x∧CoatOk w known j (zcY w known l j i) x) h3 (fun i s K hi hI hK=>?_) (fun s5 h5=>?_)
 · refine zaN (ziG w _ _ known) ?_
   have hfl:=zo3 w (l.getD i default).Lamp (l.getD i default).Night known
   refine zcs (fun h=>?_) (fun h=>hK _ (fun j hj=>?_))
   · simp only [Bool.and_eq_true,decide_eq_true_eq] at h
     obtain ⟨m,hm⟩:∃ m:Nat,fit w (l.getD i default).Lamp (l.getD i default).Night known=(m:Int):=⟨_,(Int.toNat_of_nonneg h.1).symm⟩
     rw [hm] at hfl ⊢
     obtain ⟨x,e,hx⟩:=hI m (by omega)
     rw [e]
     refine wp_bind (zo9 hx _ (by have:=zgv (w:=w) (known:=known) (l:=l) (m:=m) i;omega)) (fun y hy=>hK _ (fun j hj=>?_))
     by_cases ej:j=m
     · subst ej
       refine ⟨y,by rw [Mp.zjP,if_pos rfl],?_⟩
       unfold zcY
       rw [if_pos ⟨hm,h.2⟩]
       exact hy
     · rw [Mp.zjP,if_neg (by omega)]
       unfold zcY
       rw [if_neg (fun h'=>ej (by have:=h'.1.symm.trans hm;omega))]
       exact hI j hj
   · unfold zcY
     rw [if_neg (fun h'=>?_)]
     · exact hI j hj
     · rw [Bool.and_eq_false_iff,decide_eq_false_iff_not] at h
       rcases h with h|h
       · exact h (by have:=h'.1;unfold lk at this;omega)
       · have:=h'.2;unfold lk at this;rw [this] at h;cases h
 refine zdG (fun i s=>s.length=i∧∀ b,b<i→s.getD b default=(ba w b).Life) ⟨rfl,fun b hb=>absurd hb (Nat.not_lt_zero _)⟩ (fun i s K hi hI hK=>zcr (by simp [-List.getD_eq_getElem?_getD];omega) (hK _ ⟨by simp [-List.getD_eq_getElem?_getD,hI.1],fun b hb=>?_⟩)) (fun s12 h12=>?_)
 · rw [zca]
   by_cases e:b=s.length
   · rw [if_pos e,e,hI.1];rfl
   · rw [if_neg e];exact hI.2 b (by omega)
 refine zaN (zps _ nm) ?_
 refine zo8 w.Mantles.length _ (fun j s=>s.length=w.Batches.length∧∀ b:Nat,b<w.Batches.length→∀ x,inR (s.getD b default) x↔inR (ba w b).Life x∧∀ i,i<j→bat w i=(b:Int)→OkBy w known i (sights w known l i) x)
  ⟨h12.1,fun b hb x=>by rw [h12.2 b hb];exact ⟨fun h=>⟨h,fun i hi=>absurd hi (Nat.not_lt_zero _)⟩,fun h=>h.1⟩⟩ (fun j s K hj hI hK=>?_) (fun s hs=>zaD ?_)
 · obtain ⟨x,e,hx⟩:=h5 j hj
   have hsn:∀ y∈sights w known l j,0≤y.night:=fun y hy=>by
    obtain ⟨i,hi,_,_,e⟩:=zeU.1 hy
    rw [e];exact hn _ (zbQ hi)
   obtain ⟨g,b,he⟩:=zpr (sights w known l j) hsn
   refine zax (by omega) (zaN (zjo w _) ?_)
   simp only [Int.toNat_natCast]
   have hbt:=bat_ok V hj
   have ebt:zeP w (w.Mantles.getD j default).Batch=bat w j:=rfl
   rw [e,ebt]
   obtain ⟨q,hq⟩:∃ q:Nat,bat w j=(q:Int):=⟨_,(Int.toNat_of_nonneg hbt.1).symm⟩
   rw [hq] at hbt ⊢
   refine zaN (zou V hx hsn he) (zaN (zna (c:=⟨w,known,s5,s⟩) (by simp only;omega) _) (zax (by simp [-List.getD_eq_getElem?_getD]) (hK _ ⟨by simp [-List.getD_eq_getElem?_getD,hI.1],fun b' hb' y=>?_⟩)))
   have hlm:=znn V hsn he y (known:=known) (m:=(j:Int))
   simp only
   rw [zoC _ _ _ _ _ (by omega)]
   by_cases eb:b'=q
   · subst eb
     rw [if_pos rfl,zoS,hI.2 b' hb',hlm]
     constructor
     · rintro ⟨⟨a1,a2⟩,a3⟩
       refine ⟨a1,fun i hi hbi=>?_⟩
       by_cases ei:i=j
       · rw [ei];exact a3
       · exact a2 i (by omega) hbi
     · rintro ⟨a1,a2⟩
       exact ⟨⟨a1,fun i hi hbi=>a2 i (by omega) hbi⟩,a2 j (by omega) hq⟩
   · rw [if_neg eb,hI.2 b' hb']
     constructor
     · rintro ⟨a1,a2⟩
       refine ⟨a1,fun i hi hbi=>?_⟩
       by_cases ei:i=j
       · rw [ei,hq] at hbi;omega
       · exact a2 i (by omega) hbi
     · rintro ⟨a1,a2⟩
       exact ⟨a1,fun i hi hbi=>a2 i (by omega) hbi⟩
 · refine ⟨rfl,rfl,h5,hs.1,hs.2,fun i hi y hy=>?_,fun i hi=>?_⟩
   · obtain ⟨k,hk,_,_,e⟩:=zeU.1 hy
     rw [e];exact hn _ (zbQ hk)
   · exact Nat.le_trans (zgv _) hl
def zbh (w:Wear) (known:Int) (S:Nat→List mantle_sight):Prop:=∀ b:Nat,b<w.Batches.length→∃ x,inR (ba w b).Life x∧∀ i,i<w.Mantles.length→bat w i=(b:Int)→OkBy w known i (S i) x
theorem zjh {w:Wear} {known:Int} {S:Nat→List mantle_sight} {c:mantle_closet} (h:Hung w known S c):Wp (zaB c) (fun r=>r=true↔zbh w known S):=by
 unfold zaB
 refine zaN (show zby c.lives _=_ from zev (q:=zba) (fun x=>rfl) _) (zaD ?_)
 rw [Bool.not_eq_true',List.any_eq_false]
 constructor
 · intro h1 b hb
   have h2:=h1 _ (zbQ (l:=c.lives) (i:=b) (by rw [h.len];exact hb))
   have h3:(c.lives.getD b default).Lo≤(c.lives.getD b default).Hi:=by
    simp only [zba,decide_eq_true_eq] at h2;omega
   exact ⟨_,(h.lives b hb _).1 ⟨Int.le_refl _,h3⟩⟩
 · intro h1 r hr
   obtain ⟨b,hb,rfl⟩:=zbV hr
   obtain ⟨x,hx⟩:=h1 b (by rw [← h.len];exact hb)
   have:=(h.lives b (by rw [← h.len];exact hb) x).2 hx
   unfold inR at this
   simp only [zba,decide_eq_true_eq];omega
end Go.Sp
end
/- Plain laws, mantle: whether a mantle is bad. No program in sight. -/
section
set_option linter.all false
namespace Go.Sp
open Go.Av
set_option maxRecDepth 100000
def CanBe (w:Wear) (known:Int) (S:Nat→List mantle_sight) (m:Nat) (night:Int) (bad:Bool):Prop:=
 ∃ x,(inR (ba w (bat w m).toNat).Life x∧∀ i,i<w.Mantles.length→bat w i=bat w m→OkBy w known i (S i) x)∧OkBy w known m (S m++[⟨night,bad⟩]) x
open Classical in
noncomputable def stateR (w:Wear) (known:Int) (S:Nat→List mantle_sight) (m:Nat) (night:Int):Int:=
 if ¬ CanBe w known S m night true then 0 else if ¬ CanBe w known S m night false then 1 else 2
def za7 (n:Int):Prop:=0≤n∧n≤100000
instance (n:Int):Decidable (za7 n):=inferInstanceAs (Decidable (_∧_))
theorem ziA {n:Int}:zaH n=true↔za7 n:=by simp [-List.getD_eq_getElem?_getD,zaH,zaK,za7]
theorem zir {w:Wear} (V:WearOk w) {l:List Int} (h:∀ n∈l,za7 n):za1 w l=some 0:=by
 unfold za1
 refine Wp.eq (zaN (zkv V) (zcP (by simp [-List.getD_eq_getElem?_getD]) (zaN (show zbj l _=_ from zev (q:=zbl) (fun x=>rfl) _) ?_)))
 refine zcP ?_ (zaD rfl)
 rw [List.any_eq_false]
 intro n hn
 simp [-List.getD_eq_getElem?_getD,zbl,ziA.2 (h n hn)]
theorem zhj {w:Wear} (V:WearOk w) {l:List Int} (h:¬ ∀ n∈l,za7 n):za1 w l=some 6:=by
 unfold za1
 refine Wp.eq (zaN (zkv V) (zcP (by simp [-List.getD_eq_getElem?_getD]) (zaN (show zbj l _=_ from zev (q:=zbl) (fun x=>rfl) _) ?_)))
 refine zdU ?_ (zaD rfl)
 rw [List.any_eq_true]
 refine Classical.byContradiction (fun k=>h (fun n hn=>?_))
 refine Classical.byContradiction (fun k2=>k ⟨n,hn,?_⟩)
 unfold zbl
 cases h3:zaH n with
 | false=>rfl
 | true=>exact absurd (ziA.1 h3) k2
theorem zhi {w:Wear} (hf:Fits w) (V:¬ WearOk w) (l:List Int):za1 w l=some 64:=by
 unfold za1
 exact Wp.eq (zaN (zmx hf V) (zdU (by simp [-List.getD_eq_getElem?_getD]) (zaD rfl)))
def znu (w:Wear) (lamp night known:Int):Int:=if ¬ (1≤lamp∧lamp≤999) then 1 else if ¬ (za7 night∧za7 known) then 6 else if fit w lamp night known<0 then 66 else 0
end Go.Sp
end
/- Plain laws, mantle: the document's lives and states. No program in sight. -/
section
set_option linter.all false
namespace Go.Sp
open Go.Av
set_option maxRecDepth 100000
structure ToldL (known:Int) (L:List Look):Prop where
 few:L.length≤900
 night:∀ l∈L,0≤l.Night
 cnt:∀ l∈L,zap l.Known l.Until known=true
def tells (w:Wear) (known:Int) (l:Look):Bool:=decide (0≤fit w l.Lamp l.Night known) && zap l.Known l.Until known
def zcQ (w:Wear) (known:Int):List Look:=w.Looks.filter (tells w known)
theorem look_ok {w:Wear} (V:WearOk w) {l:Look} (h:l∈w.Looks):zkZ l:=V.lo.ok h
theorem zhc {w:Wear} (V:WearOk w) (known:Int):ToldL known (zcQ w known):=by
 refine ⟨by have:=V.nl;have:=List.length_filter_le (tells w known) w.Looks;unfold zcQ;omega,fun l hl=>?_,fun l hl=>?_⟩
 · exact (look_ok V (List.mem_filter.1 hl).1).night.1
 · have:=(List.mem_filter.1 hl).2
   unfold tells at this
   exact (Bool.and_eq_true _ _▸this).2
theorem OkBy.mono {w:Wear} {known m:Int} {S T:List mantle_sight} {x:Int} (h:OkBy w known m S x) (hs:∀ s∈T,s∈S):OkBy w known m T x:=
 ⟨h.range,fun s hs'=>h.good s (hs s hs'),fun s hs'=>h.bad s (hs s hs'),fun s hs' t ht=>h.two s (hs s hs') t (hs t ht)⟩
theorem znp {w:Wear} (V:WearOk w) {q:Nat} (hq:q<w.Batches.length) {x:Int} (h:inR (ba w q).Life x):0≤x∧x≤1000000:=by
 have:=(V.ba q hq).1.life
 unfold inR ba at h
 omega
theorem zos {w:Wear} {known m x:Int} (h:0≤x∧x≤1000000):OkBy w known m [] x:=⟨h,fun s hs=>(by cases hs),fun s hs=>(by cases hs),fun s hs=>(by cases hs)⟩
def zoX (w:Wear) (known:Int) (S:Nat→List mantle_sight) (q:Nat) (x:Int):Prop:=inR (ba w q).Life x∧∀ i,i<w.Mantles.length→bat w i=(q:Int)→OkBy w known i (S i) x
end Go.Sp
end
/- Plain laws, mantle: states by both; MantleAges. No program in sight. -/
section
set_option linter.all false
namespace Go.Sp
open Go.Av
set_option maxRecDepth 100000
end Go.Sp
end
/- Plain laws, mantle: State, Age, Fitted by both; MantleAges. No program in sight. -/
section
set_option linter.all false
namespace Go.Sp
open Go.Av
set_option maxRecDepth 100000
def zjB (w:Wear) (known:Int) (m:Nat) (l:Look):Bool:=decide (fit w l.Lamp l.Night known=(m:Int)) && zap l.Known l.Until known
def toS (l:Look):mantle_sight:=⟨l.Night,l.Bad⟩
theorem zjb {w:Wear} {known:Int} {l:List Look} {m:Nat}:∀ {n:Nat},n≤l.length→zcY w known l m n=((l.take n).filter (zjB w known m)).map toS
 | 0,_=>rfl
 | n+1,h=>by
  rw [zfn (by omega),List.filter_append,List.map_append,← zjb (by omega)]
  rw [show zcY w known l m (n+1)=if fit w (lk l n).Lamp (lk l n).Night known=(m:Int)∧zap (lk l n).Known (lk l n).Until known=true then zcY w known l m n++[⟨(lk l n).Night,(lk l n).Bad⟩] else zcY w known l m n from rfl]
  by_cases hc:fit w (lk l n).Lamp (lk l n).Night known=(m:Int)∧zap (lk l n).Known (lk l n).Until known=true
  · have:zjB w known m (l.getD n default)=true:=by unfold zjB;rw [Bool.and_eq_true,decide_eq_true_eq];exact hc
    rw [if_pos hc];simp [-List.getD_eq_getElem?_getD,this,toS,lk]
  · have:zjB w known m (l.getD n default)=false:=by
     rw [← Bool.not_eq_true];unfold zjB;rw [Bool.and_eq_true,decide_eq_true_eq];exact hc
    rw [if_neg hc];simp [-List.getD_eq_getElem?_getD,this]
theorem zeT (w:Wear) (known:Int) (l:List Look) (m:Nat):sights w known l m=(l.filter (zjB w known m)).map toS:=by
 unfold sights
 rw [zjb (Nat.le_refl _),List.take_length]
theorem zfs (w:Wear) (known:Int):sights w known (zcQ w known)=sights w known w.Looks:=by
 funext m
 rw [zeT,zeT]
 unfold zcQ
 rw [List.filter_filter]
 congr 1
 refine List.filter_congr (fun l _=>?_)
 unfold zjB tells
 rw [Bool.eq_iff_iff]
 simp only [Bool.and_eq_true,decide_eq_true_eq]
 constructor
 · rintro ⟨h1,_⟩;exact h1
 · rintro ⟨h1,h2⟩;exact ⟨⟨h1,h2⟩,by omega,h2⟩
theorem znm {w:Wear} (V:WearOk w):w.Looks.length≤1000∧∀ x∈w.Looks,0≤x.Night:=⟨by have:=V.nl;omega,fun x hx=>(look_ok V hx).night.1⟩
abbrev allS (w:Wear) (known:Int):Nat→List mantle_sight:=sights w known w.Looks
open Classical in
noncomputable def stateV (w:Wear) (lamp night known:Int):Int×Int:=
 if znu w lamp night known≠0 then (0,znu w lamp night known) else if zbh w known (allS w known) then (stateR w known (allS w known) (fit w lamp night known).toNat night,0) else (0,65)
end Go.Sp
end
/- Plain laws, mantle: Life, Sound, Clash by both. No program in sight. -/
section
set_option linter.all false
namespace Go.Sp
open Go.Av
set_option maxRecDepth 100000
theorem zm8 {known:Int} (h:za7 known):∀ n∈([known]:List Int),za7 n:=fun n hn=>by rw [List.mem_singleton] at hn;rw [hn];exact h
theorem zlh {known:Int} (h:¬ za7 known):¬ ∀ n∈([known]:List Int),za7 n:=fun k=>h (k known (by simp [-List.getD_eq_getElem?_getD]))
structure LifeV (w:Wear) (known:Int) (id:Int) (r:Range×Int):Prop where
 inv:¬ WearOk w→r=(⟨0,0⟩,64)
 day:WearOk w→¬ za7 known→r=(⟨0,0⟩,6)
 none:WearOk w→za7 known→zeP w id<0→r=(⟨0,0⟩,3)
 fals:WearOk w→za7 known→0≤zeP w id→¬ zbh w known (allS w known)→r=(⟨0,0⟩,65)
 ok:WearOk w→za7 known→0≤zeP w id→zbh w known (allS w known)→r.2=0∧∀ x,inR r.1 x↔zoX w known (allS w known) (zeP w id).toNat x
structure SoundV (w:Wear) (known:Int) (r:Bool×Int):Prop where
 inv:¬ WearOk w→r=(false,64)
 day:WearOk w→¬ za7 known→r=(false,6)
 ok:WearOk w→za7 known→r.2=0∧(r.1=true↔zbh w known (allS w known))
theorem znj {w:Wear} (hw:Fits w) {fuel:Nat} (hf:1000≤fuel) (known:Int):Wp (zdQ fuel w known) (SoundV w known):=by
 unfold zdQ
 by_cases V:¬ WearOk w
 · exact zaN (zhi hw V _) (zdU (by simp [-List.getD_eq_getElem?_getD]) (zaD ⟨fun _=>rfl,fun k=>absurd k V,fun k=>absurd k V⟩))
 have V:=Classical.not_not.1 V
 by_cases hn:za7 known
 · refine zaN (zir V (zm8 hn)) (zcP (by simp [-List.getD_eq_getElem?_getD]) (wp_bind (znz V hf (znm V).1 (znm V).2 known) (fun c hc=>wp_bind (zjh hc) (fun b hb=>zaD ⟨fun k=>absurd V k,fun _ k=>absurd hn k,fun _ _=>⟨rfl,hb⟩⟩))))
 · refine zaN (zhj V (zlh hn)) (zdU (by simp [-List.getD_eq_getElem?_getD]) (zaD ⟨fun k=>absurd V k,fun _ _=>rfl,fun _ k=>absurd k hn⟩))
theorem zie {w:Wear} (V:WearOk w) {fuel:Nat} (hf:1000≤fuel) (known:Int):zck fuel w known=some (zcQ w known):=by
 have nl:=V.nl
 unfold zck za0
 refine Wp.eq (wp_bind (Q:=fun y=>y=w.Looks) (zcr (by simp [-List.getD_eq_getElem?_getD];omega) (zaD (by simp [-List.getD_eq_getElem?_getD]))) (fun y hy=>?_))
 subst hy
 have hp:∀ x,zbR x known w=some (!tells w known x):=fun x=>by
  unfold zbR tells
  rw [ziG]
  cases zap x.Known x.Until known
  · show some _=some _
    simp [-List.getD_eq_getElem?_getD]
  · show some _=some _
    congr 1
    rw [Bool.eq_iff_iff]
    simp [-List.getD_eq_getElem?_getD]
 have e:=zj7 (T:=Look) (⟨0,0,0,false,0,0⟩:Look) (q:=fun x=>!tells w known x) hp w.Looks fuel (by omega) (by omega)
 refine zaN (show zbP fuel w.Looks _=_ from e) (zaD ?_)
 unfold zcQ
 congr 1
 funext x
 simp [-List.getD_eq_getElem?_getD]
def without (l:List Look) (i:Nat):List Look:=l.take i++l.drop (i+1)
theorem zh7 {l:List Look} {i:Nat} (h:i<l.length):(without l i).length=l.length - 1:=by simp [-List.getD_eq_getElem?_getD,without];omega
theorem zeQ (l:List Look) (i:Nat):(without l i).Sublist l:=zpu l i
theorem znq {l:List Look} {i:Nat} (h:i<l.length) (hl:l.length≤1000):zdA l (i:Int)=some (without l i):=by
 unfold zdA za0 zcu
 refine Wp.eq (wp_bind (Q:=fun y=>y=l) (zcr (by simp [-List.getD_eq_getElem?_getD];omega) (zaD (by simp [-List.getD_eq_getElem?_getD]))) (fun y hy=>?_))
 subst hy
 have e:((i:Int)+1).toNat=i+1:=by omega
 refine zal (by omega) (wp_bind (Q:=fun z=>z=without y i) ?_ (fun z hz=>zaD hz))
 refine zax (by omega) (zcP (by simp [-List.getD_eq_getElem?_getD];omega) (zax (by omega) (zax (by omega) ?_)))
 rw [e,Int.toNat_natCast]
 refine zax (by omega) (zax (by simp [-List.getD_eq_getElem?_getD];omega) (zaD rfl))
theorem ToldL.sub {known:Int} {L T:List Look} (h:ToldL known L) (hs:T.Sublist L):ToldL known T:=⟨Nat.le_trans hs.length_le h.few,fun l hl=>h.night l (hs.mem hl),fun l hl=>h.cnt l (hs.mem hl)⟩
theorem zeu {w:Wear} (V:WearOk w) {fuel:Nat} (hf:1000≤fuel) {known:Int} {L:List Look} (hL:ToldL known L) {R:Type} {k:Bool→Option R} {P:R→Prop} (hk:∀ b,(b=true↔zbh w known (sights w known L))→Wp (k b) P) :
 Wp (zan (zbw fuel w L known) fun c=>zan (zaB c) k) P:=
 wp_bind (znz V hf (by have:=hL.few;omega) hL.night known) (fun c hc=>wp_bind (zjh hc) hk)
open Classical in
noncomputable def clashF (w:Wear) (known:Int):Nat→List Look→List Look
 | 0,l=>l
 | n+1,l=>if zbh w known (sights w known (without l n)) then clashF w known n l else clashF w known n (without l n)
theorem zn0 {w:Wear} {known:Int} {n:Nat} {l:List Look} (h:zbh w known (sights w known (without l n))):clashF w known (n+1) l=clashF w known n l:=if_pos h
theorem zn1 {w:Wear} {known:Int} {n:Nat} {l:List Look} (h:¬ zbh w known (sights w known (without l n))):clashF w known (n+1) l=clashF w known n (without l n):=if_neg h
structure ClashV (w:Wear) (known:Int) (r:List Int×Int):Prop where
 inv:¬ WearOk w→r=([],64)
 day:WearOk w→¬ za7 known→r=([],6)
 none:WearOk w→za7 known→zbh w known (allS w known)→r=([],3)
 ok:WearOk w→za7 known→¬ zbh w known (allS w known)→r=((clashF w known (zcQ w known).length (zcQ w known)).map (·.Source),0)
theorem znk {w:Wear} (hw:Fits w) {fuel:Nat} (hf:1000≤fuel) (known:Int):Wp (zdj fuel w known) (ClashV w known):=by
 unfold zdj
 by_cases V:¬ WearOk w
 · exact zaN (zhi hw V _) (zdU (by simp [-List.getD_eq_getElem?_getD]) (zaD ⟨fun _=>rfl,fun k=>absurd k V,fun k=>absurd k V,fun k=>absurd k V⟩))
 have V:=Classical.not_not.1 V
 by_cases hn:za7 known
 · have hT:=zhc V known
   refine zaN (zir V (zm8 hn)) (zcP (by simp [-List.getD_eq_getElem?_getD]) (zaN (zie V hf known) (zeu V hf hT (fun b hb=>?_))))
   rw [zfs] at hb
   refine zcs (fun k=>zaD ⟨fun k=>absurd V k,fun _ k=>absurd hn k,fun _ _ _=>rfl,fun _ _ k2=>absurd (hb.1 k) k2⟩) (fun k=>?_)
   have hs:¬ zbh w known (allS w known):=fun k2=>by rw [hb.2 k2] at k;cases k
   have hfew:(zcQ w known).length≤60:=Nat.le_trans (List.length_filter_le _ _) V.nl
   refine zal (by omega) ?_
   refine wp_loop (fun s=>∃ n:Nat,s.1=(n:Int) - 1∧n≤s.2.length∧s.2.Sublist (zcQ w known)∧clashF w known n s.2=clashF w known (zcQ w known).length (zcQ w known)) (fun s=>(s.1+1).toNat) (by simp only;omega) ⟨(zcQ w known).length,rfl,Nat.le_refl _,List.Sublist.refl _,rfl⟩ (fun s K hI hK=>?_)
   obtain ⟨x,l⟩:=s
   obtain ⟨n,h1,h2,h3,h4⟩:=hI
   simp only at h1 h2 h3 h4 hK ⊢
   subst h1
   have hl:=h3.length_le
   cases n with
   | zero=>
    refine zcP (by simp [-List.getD_eq_getElem?_getD]) ?_
    refine zdG (fun i s=>s=(l.take i).map (·.Source)) rfl (fun i s K2 hi hI hK2=>zcr (by rw [hI];simp [-List.getD_eq_getElem?_getD];omega) (hK2 _ ?_)) (fun s hs2=>zaD ⟨fun k=>absurd V k,fun _ k=>absurd hn k,fun _ _ k=>absurd k hs,fun _ _ _=>?_⟩)
    · rw [zfn hi,List.map_append,hI];rfl
    · rw [hs2,List.take_length,← h4];rfl
   | succ n=>
    have e:((n+1:Nat):Int) - 1=(n:Int):=by omega
    rw [e] at hK ⊢
    refine zdU (by simp [-List.getD_eq_getElem?_getD]) (zaN (znq (by omega) (by omega)) (zeu V hf (hT.sub ((zeQ l n).trans h3)) (fun b2 hb2=>?_)))
    refine zcs (fun k2=>zal (by omega) (hK _ ⟨n,rfl,?_,(zeQ l n).trans h3,?_⟩ (by simp only;omega))) (fun k2=>zal (by omega) (hK _ ⟨n,rfl,by simp only;omega,h3,?_⟩ (by simp only;omega)))
    · simp only;rw [zh7 (by omega)];omega
    · rw [zn1 (fun k3=>by rw [hb2.2 k3] at k2;cases k2)] at h4;exact h4
    · rw [zn0 (hb2.1 (by simpa [-List.getD_eq_getElem?_getD] using k2))] at h4;exact h4
 · refine zaN (zhj V (zlh hn)) (zdU (by simp [-List.getD_eq_getElem?_getD]) (zaD ⟨fun k=>absurd V k,fun _ _=>rfl,fun _ k=>absurd k hn,fun _ k=>absurd k hn⟩))
end Go.Sp
end
/- Plain laws, mantle: CheckClash by both; MantleLives. No program in sight. -/
section
set_option linter.all false
namespace Go.Sp
open Go.Av
set_option maxRecDepth 100000
structure Picks (w:Wear) (known:Int) (q:List Int) (n:Nat) (s:List Look):Prop where
 len:s.length=n
 mem:∀ j,j<n→lk s j∈zcQ w known∧(lk s j).Source=q.getD j default
 ris:∀ j,0<j→j<n→q.getD (j - 1) default<q.getD j default
theorem zgs {w:Wear} (V:WearOk w) (known:Int):(zcQ w known).Pairwise (fun a b=>a.Source<b.Source):=List.Pairwise.sublist List.filter_sublist V.lo.sorted
theorem zlN {w:Wear} (V:WearOk w) (known:Int):(zcQ w known).length≤60:=Nat.le_trans (List.length_filter_le _ _) V.nl
theorem Picks.sorted {w:Wear} {known:Int} {q:List Int} {n:Nat} {s:List Look} (h:Picks w known q n s):s.Pairwise (fun a b=>a.Source<b.Source):=by
 refine zju (fun l:Look=>l.Source) (fun i h0 hi=>?_)
 have hl:=h.len
 have h1:=(h.mem i (by omega)).2
 have h2:=(h.mem (i - 1) (by omega)).2
 have h3:=h.ris i h0 (by omega)
 unfold lk at h1 h2
 omega
theorem Picks.all {w:Wear} {known:Int} {q:List Int} {n:Nat} {s:List Look} (h:Picks w known q n s):∀ l∈s,l∈zcQ w known:=fun l hl=>by
 obtain ⟨i,hi,e⟩:=zbV hl
 have:=(h.mem i (by have:=h.len;omega)).1
 unfold lk at this
 rwa [e] at this
theorem Picks.few {w:Wear} (V:WearOk w) {known:Int} {q:List Int} {n:Nat} {s:List Look} (h:Picks w known q n s):n≤60:=by
 have h1:=zlZ (zkk h.sorted) h.all
 have:=zlN V known
 have:=h.len
 omega
theorem Picks.told {w:Wear} (V:WearOk w) {known:Int} {q:List Int} {n:Nat} {s:List Look} (h:Picks w known q n s):ToldL known s:=
 ⟨by have:=h.few V;have:=h.len;omega,fun l hl=>(zhc V known).night l (h.all l hl),fun l hl=>(zhc V known).cnt l (h.all l hl)⟩
theorem Picks.push {w:Wear} {known:Int} {q:List Int} {n:Nat} {s:List Look} (h:Picks w known q n s) {l:Look} (hl:l∈zcQ w known) (e:l.Source=q.getD n default) (hr:0<n→q.getD (n - 1) default<q.getD n default):Picks w known q (n+1) (s++[l]):=by
 refine ⟨by simp [-List.getD_eq_getElem?_getD,h.len],fun j hj=>?_,fun j h0 hj=>?_⟩
 · unfold lk
   rw [zca,h.len]
   by_cases ej:j=n
   · rw [if_pos ej,ej];exact ⟨hl,e⟩
   · rw [if_neg ej];exact h.mem j (by omega)
 · by_cases ej:j=n
   · rw [ej];exact hr (by omega)
   · exact h.ris j h0 (by omega)
theorem Picks.uniq {w:Wear} (V:WearOk w) {known:Int} {q:List Int} {n:Nat} {s t:List Look} (h:Picks w known q n s) (h':Picks w known q n t):s=t:=by
 refine zme (by rw [h.len,h'.len]) (fun i hi=>?_)
 have hn:=h.len
 obtain ⟨a1,a2⟩:=h.mem i (by omega)
 obtain ⟨b1,b2⟩:=h'.mem i (by omega)
 exact zmm (f:=fun l:Look=>l.Source) (zgs V known) a1 b1 (a2.trans b2.symm)
def CC (w:Wear) (known:Int) (q:List Int):Prop:=∃ s,Picks w known q q.length s∧¬ zbh w known (sights w known s)∧∀ i,i<s.length→zbh w known (sights w known (without s i))
structure CheckV (w:Wear) (known:Int) (q:List Int) (r:Int):Prop where
 inv:¬ WearOk w→r=64
 day:WearOk w→¬ za7 known→r=6
 yes:WearOk w→za7 known→CC w known q→r=0
 no:WearOk w→za7 known→¬ CC w known q→r=68
theorem zgk {w:Wear} (hw:Fits w) {fuel:Nat} (hf:1000≤fuel) (known:Int) {q:List Int} (hq:q.length≤9223372036854775807):Wp (zbf fuel w known q) (CheckV w known q):=by
 unfold zbf
 by_cases V:¬ WearOk w
 · exact zaN (zhi hw V _) (zdU (by simp [-List.getD_eq_getElem?_getD]) (zaD ⟨fun _=>rfl,fun k=>absurd k V,fun k=>absurd k V,fun k=>absurd k V⟩))
 have V:=Classical.not_not.1 V
 by_cases hn:¬ za7 known
 · exact zaN (zhj V (zlh hn)) (zdU (by simp [-List.getD_eq_getElem?_getD]) (zaD ⟨fun k=>absurd V k,fun _ _=>rfl,fun _ k=>absurd k hn,fun _ k=>absurd k hn⟩))
 have hn:=Classical.not_not.1 hn
 have bad:¬ CC w known q→CheckV w known q 68:=fun h=>⟨fun k=>absurd V k,fun _ k=>absurd hn k,fun _ _ k=>absurd k h,fun _ _ _=>rfl⟩
 refine zaN (zir V (zm8 hn)) (zcP (by simp [-List.getD_eq_getElem?_getD]) (zaN (zie V hf known) ?_))
 have hfew:=zlN V known
 have hsrt:=zgs V known
 refine zdG (fun i s=>Picks w known q i s) ⟨rfl,fun j hj=>absurd hj (Nat.not_lt_zero _),fun j _ hj=>absurd hj (Nat.not_lt_zero _)⟩ (fun i s K hi hI hK=>?_) (fun s hs=>?_)
 · obtain ⟨k,k1,k2,k3,k4,_⟩:=zkj (fun l:Look=>l.Source) hsrt (q.getD i default)
   have hbs:=bsF_eq (fuel:=fuel) (zcQ w known) (q.getD i default) (p2:=fun x0 x1=>some (zaY x0 x1)) (c:=fun t=>zaY t (q.getD i default)) (fun t=>rfl) (k:=k) k1 (fun j hj=>zmj.2 (k2 j hj)) (fun j hj hj'=>by
    have:=k3 j hj hj'
    have e:=zmj (a:=((zcQ w known).getD j default).Source) (b:=q.getD i default)
    show 0≤zaR _ _
    omega) (by omega) (by omega)
   refine zaN (show zbk fuel (zcQ w known) (q.getD i default) _=_ from hbs) ?_
   have e0:decide (zaY ((zcQ w known).getD k default) (q.getD i default)=0)=decide (((zcQ w known).getD k default).Source=q.getD i default):=by
    rw [decide_eq_decide];exact znZ
   simp only [e0]
   refine zax (fun _=>by unfold inI;omega) (zax (fun h=>by simp [-List.getD_eq_getElem?_getD] at h;omega) ?_)
   have e:(((i:Int) - 1)).toNat=i - 1:=by omega
   rw [e]
   refine zcs (fun hb=>zaD (bad (fun ⟨s',h1,_⟩=>?_))) (fun hb=>?_)
   · obtain ⟨h2,h3⟩:=h1.mem i hi
     have hfound:k<(zcQ w known).length∧((zcQ w known).getD k default).Source=q.getD i default:=by
      refine Classical.byContradiction (fun h=>?_)
      exact k4.2 h _ h2 h3
     have h4:=h1.ris i
     simp only [hfound.1,hfound.2,decide_true,Bool.and_self,Bool.not_true,Bool.false_or,Bool.and_eq_true,decide_eq_true_eq] at hb
     have:=h4 (by omega) hi
     omega
   · simp only [Bool.or_eq_false_iff,Bool.not_eq_false',Bool.and_eq_true,decide_eq_true_eq,Bool.and_eq_false_iff,decide_eq_false_iff_not] at hb
     have hfw:=hI.few V
     have hln:=hI.len
     refine zax (by omega) (zcr (by simp [-List.getD_eq_getElem?_getD];omega) (hK _ ?_))
     rw [Int.toNat_natCast]
     exact hI.push (zbQ hb.1.1) hb.1.2 (fun h0=>by omega)
 · have hT:=hs.told V
   have hfw:=hs.few V
   have hln:=hs.len
   refine zeu V hf hT (fun b hb=>?_)
   refine zcs (fun k=>zaD (bad (fun ⟨s',h1,h2,_⟩=>?_))) (fun k=>?_)
   · rw [h1.uniq V hs] at h2;exact h2 (hb.1 k)
   have hns:¬ zbh w known (sights w known s):=fun k2=>by rw [hb.2 k2] at k;cases k
   refine zh6 (fun i=>zbh w known (sights w known (without s i))) (fun i K hi _ hK=>?_) (fun h=>zaD ⟨fun k=>absurd V k,fun _ k=>absurd hn k,fun _ _ _=>rfl,fun _ _ k=>absurd ⟨s,hs,hns,h⟩ k⟩)
   refine zaN (znq hi (by omega)) (zeu V hf (hT.sub (zeQ s i)) (fun b2 hb2=>?_))
   refine zcs (fun k2=>zaD (bad (fun ⟨s',h1,_,h3⟩=>?_))) (fun k2=>hK (hb2.1 (by simpa [-List.getD_eq_getElem?_getD] using k2)))
   rw [h1.uniq V hs] at h3
   have:=hb2.2 (h3 i hi)
   rw [this] at k2;cases k2
end Go.Sp
end
/- Plain laws, mantle: slices.Compact; a wear without a source; Moved by both; MantleMoves. No program in sight. -/
section
set_option linter.all false
namespace Go.Sp
open Go.Av
set_option maxRecDepth 100000
def zpl (w:Wear) (src:Int):Wear:=⟨w.Batches,w.Mantles.filter (fun m=>!decide (m.Source=src)),w.Burns.filter (fun b=>!decide (b.Source=src)),w.Looks.filter (fun l=>!decide (l.Source=src))⟩
def total (w:Wear):Nat:=w.Mantles.length+w.Burns.length+w.Looks.length
end Go.Sp
end
/- Plain laws, mantle: Moved by both; MantleMoves. No program in sight. -/
section
set_option linter.all false
namespace Go.Sp
open Go.Av
set_option maxRecDepth 100000
def Moves (w:Wear) (src night known:Int) (lamp:Int):Prop:=stateV w lamp night known≠stateV (zpl w src) lamp night known
structure MovedV (w:Wear) (src night known:Int) (r:List Int×Int):Prop where
 inv:¬ WearOk w→r=([],64)
 day:WearOk w→¬ (za7 night∧za7 known)→r=([],6)
 none:WearOk w→za7 night∧za7 known→¬ total (zpl w src)<total w→r=([],3)
 ok:WearOk w→za7 night∧za7 known→total (zpl w src)<total w→r.2=0∧r.1.Pairwise (· < ·)∧(∀ x,x∈r.1↔(∃ j,j<w.Mantles.length∧(mt w j).Lamp=x)∧Moves w src night known x)∧r.1.length≤60
end Go.Sp
end
/- Plain laws, mantle: the wears that numbers determine. No program in sight. -/
section
set_option linter.all false
namespace Go.Sp
open Go.Av
set_option maxRecDepth 100000
theorem zcW {n m:Int} (hm:0<m∧m≤1000000):Wp (zar n m) (fun r=>0≤r∧r<m):=by
 unfold zar
 have h1:=Int.tmod_lt_of_pos n hm.1
 have h2 : -m<Int.tmod n m:=by
  have:=Int.tmod_lt_of_pos (-n) hm.1
  rw [Int.neg_tmod] at this
  omega
 refine zax (by omega) (zal (by omega) (zax (by omega) (zaD ⟨Int.tmod_nonneg _ (by omega),Int.tmod_lt_of_pos _ hm.1⟩)))
theorem zm5 {l:List Int} {i:Int} (hi:0≤i):Wp (zbE l i) (fun _=>True):=by
 unfold zbE
 refine zcy (fun _=>zaD trivial) (fun h=>?_)
 have h0:(0:Int)<(l.length:Int):=by omega
 exact zax (by omega) (zax ⟨Int.tmod_nonneg _ hi,Int.tmod_lt_of_pos _ h0⟩ (zaD trivial))
structure TrueT (w:Wear) (t:Lives):Prop where
 nl:t.Lives.length=w.Batches.length
 lives:∀ i,i<w.Batches.length→inR (ba w i).Life (t.Lives.getD i default)
 nm:t.Minutes.length=w.Burns.length
 mins:∀ i,i<w.Burns.length→(bn w i).Minutes.Lo≤t.Minutes.getD i default∧t.Minutes.getD i default≤(bn w i).Minutes.Hi
structure MadeV (w:Wear) (t:Lives):Prop where
 ok:WearOk w
 tr:TrueT w t
 looks:w.Looks.length≤6
 src:∀ l∈w.Looks,l.Source≤60
theorem zgX {T:Type} [Inhabited T] {ok:T→Prop} {num:T→Int} {l:List T} (h:zfV ok num l) {x:T} (hx:ok x) (hn:∀ y∈l,num y<num x):zfV ok num (l++[x]):=by
 intro i hi
 simp only [List.length_append,List.length_cons,List.length_nil] at hi
 rw [zca,zca]
 by_cases e:i=l.length
 · rw [if_pos e]
   refine ⟨hx,fun h0=>?_⟩
   rw [if_neg (by omega)]
   exact hn _ (zbQ (by omega))
 · rw [if_neg e]
   refine ⟨(h i (by omega)).1,fun h0=>?_⟩
   rw [if_neg (by omega)]
   exact (h i (by omega)).2 h0
theorem zh4 {T:Type} [Inhabited T] {ok:T→Prop} {num:T→Int}:zfV ok num ([]:List T):=fun i hi=>absurd hi (Nat.not_lt_zero _)
theorem zpk {fuel:Nat} (hf:1000≤fuel) (r:gasolierref06_Raw) (q:List Int):Wp (zbZ fuel r q) (fun z=>MadeV z.1 z.2):=by
 unfold zbZ
 refine zlK 2 (by omega) (fun i s=>s.1.length=i∧s.2.length=i∧zfV BatchOk (·.Id) s.1∧(∀ j,j<i→(s.1.getD j default).Id=(j:Int)+1)∧∀ j,j<i→inR (s.1.getD j default).Life (s.2.getD j default)) ⟨rfl,rfl,zh4,fun j hj=>absurd hj (Nat.not_lt_zero _),fun j hj=>absurd hj (Nat.not_lt_zero _)⟩ (fun i s K hi hI hK=>?_)
 obtain ⟨bs,ls⟩:=s
 obtain ⟨b1,b2,b3,b4,b5⟩:=hI
 simp only at b1 b2 b3 b4 b5 ⊢
 refine zcs (fun hb=>?_) (fun hb=>?_)
 · have hi2:i<2:=by
    simp only [Bool.or_eq_true,Bool.and_eq_true,decide_eq_true_eq] at hb
    omega
   refine zgq (fun _=>True) (fun K2 hK2=>?_) (fun s3 _=>?_)
   · exact zcy (fun h=>zax (by omega) (hK2 _ trivial)) (fun h=>hK2 _ trivial)
   refine wp_bind (zcW (by omega)) (fun lo hlo=>zal (by omega) (wp_bind (zcW (by omega)) (fun d hd=>zal (by omega) ?_)))
   refine zcr (by simp [-List.getD_eq_getElem?_getD];omega) (wp_bind (zm5 (by omega)) (fun p _=>zal (by omega) (zal (by omega) (wp_bind (zcW (by omega)) (fun v hv=>zal (by omega) (zcr (by simp [-List.getD_eq_getElem?_getD];omega) (zal (by omega) (hK _ hi2 ?_))))))))
   refine ⟨by simp [-List.getD_eq_getElem?_getD,b1],by simp [-List.getD_eq_getElem?_getD,b2],zgX b3 ⟨by simp only;omega,by simp only;omega⟩ (fun y hy=>?_),fun j hj=>?_,fun j hj=>?_⟩
   · obtain ⟨j,hj,e⟩:=zbV hy
     have:=b4 j (by omega)
     rw [e] at this
     simp only;omega
   · rw [zca]
     by_cases e:j=bs.length
     · rw [if_pos e];simp only;omega
     · rw [if_neg e];exact b4 j (by omega)
   · rw [zca,zca]
     by_cases e:j=bs.length
     · rw [if_pos e,if_pos (by omega)];unfold inR;simp only;omega
     · rw [if_neg e,if_neg (by omega)];exact b5 j (by omega)
 have hi1:1≤i:=by
  simp only [Bool.or_eq_false_iff,decide_eq_false_iff_not] at hb
  omega
 refine zlK 7 (by omega) (fun j s=>s.length=j∧zfV MantleOk (·.Source) s∧(∀ k,k<j→(s.getD k default).Source=(k:Int)+1)∧∀ k,k<j→∃ q,q<bs.length∧(bs.getD q default).Id=(s.getD k default).Batch) ⟨rfl,zh4,fun j hj=>absurd hj (Nat.not_lt_zero _),fun j hj=>absurd hj (Nat.not_lt_zero _)⟩ (fun j ms K2 hj hI2 hK2=>?_)
 obtain ⟨m1,m2,m3,m4⟩:=hI2
 refine zcs (fun hb=>?_) (fun _=>?_)
 · simp only [Bool.and_eq_true,decide_eq_true_eq] at hb
   refine zax (by simp only;omega) (zal (by simp only;omega) (wp_bind (zcW (by omega)) (fun a ha=>zal (by omega) (wp_bind (zcW (by omega)) (fun b hb2=>zal (by omega) (wp_bind (zcW (by omega)) (fun c hc=>wp_bind (zcW (by omega)) (fun d hd=>?_))))))))
   refine zcr (by simp [-List.getD_eq_getElem?_getD];omega) (zal (by simp only;omega) (hK2 _ (by omega) ⟨by simp [-List.getD_eq_getElem?_getD,m1],zgX m2 ⟨⟨by simp only;omega,by simp only;omega,by simp only;omega,by simp only;omega,.inl rfl⟩,by simp only;omega⟩ (fun y hy=>?_),fun k hk=>?_,fun k hk=>?_⟩))
   · obtain ⟨k,hk,e⟩:=zbV hy
     have:=m3 k (by omega)
     rw [e] at this
     simp only;omega
   · rw [zca]
     by_cases e:k=ms.length
     · rw [if_pos e];simp only;omega
     · rw [if_neg e];exact m3 k (by omega)
   · rw [zca]
     by_cases e:k=ms.length
     · rw [if_pos e]
       refine ⟨b.toNat,by omega,?_⟩
       have:=b4 b.toNat (by omega)
       simp only;omega
     · rw [if_neg e];exact m4 k (by omega)
 refine zlK 14 (by omega) (fun j s=>s.1.length=j∧s.2.length=j∧zfV BurnOk (·.Source) s.1∧(∀ k,k<j→(s.1.getD k default).Source=(k:Int)+20)∧∀ k,k<j→(s.1.getD k default).Minutes.Lo≤s.2.getD k default∧s.2.getD k default≤(s.1.getD k default).Minutes.Hi) ⟨rfl,rfl,zh4,fun j hj=>absurd hj (Nat.not_lt_zero _),fun j hj=>absurd hj (Nat.not_lt_zero _)⟩ (fun j3 s K3 hj3 hI3 hK3=>?_)
 obtain ⟨us,ts⟩:=s
 obtain ⟨u1,u2,u3,u4,u5⟩:=hI3
 simp only at u1 u2 u3 u4 u5 ⊢
 refine zcs (fun hb=>?_) (fun _=>?_)
 · simp only [Bool.and_eq_true,decide_eq_true_eq] at hb
   refine zax (by omega) (wp_bind (zcW (by omega)) (fun lo hlo=>zal (by omega) (wp_bind (zcW (by omega)) (fun a ha=>zal (by omega) (wp_bind (zcW (by omega)) (fun n hn=>wp_bind (zcW (by omega)) (fun d hd=>zal (by omega) (wp_bind (zcW (by omega)) (fun k hk=>?_)))))))))
   refine zcr (by simp [-List.getD_eq_getElem?_getD];omega) (zal (by omega) (wp_bind (zm5 (by omega)) (fun p _=>zal (by omega) (zal (by omega) (wp_bind (zcW (by omega)) (fun v hv=>zal (by omega) (zcr (by simp [-List.getD_eq_getElem?_getD];omega) (zal (by omega) (hK3 _ (by omega) ?_)))))))))
   refine ⟨by simp [-List.getD_eq_getElem?_getD,u1],by simp [-List.getD_eq_getElem?_getD,u2],zgX u3 ⟨⟨by simp only;omega,by simp only;omega,by simp only;omega,by simp only;omega,.inl rfl⟩,by simp only;omega⟩ (fun y hy=>?_),fun j hj=>?_,fun j hj=>?_⟩
   · obtain ⟨k2,hk2,e⟩:=zbV hy
     have:=u4 k2 (by omega)
     rw [e] at this
     simp only;omega
   · rw [zca]
     by_cases e:j=us.length
     · rw [if_pos e];simp only;omega
     · rw [if_neg e];exact u4 j (by omega)
   · rw [zca,zca]
     by_cases e:j=us.length
     · rw [if_pos e,if_pos (by omega)];simp only;omega
     · rw [if_neg e,if_neg (by omega)];exact u5 j (by omega)
 refine zlK 6 (by omega) (fun j s=>s.length=j∧zfV zkZ (·.Source) s∧∀ k,k<j→(s.getD k default).Source=(k:Int)+50) ⟨rfl,zh4,fun j hj=>absurd hj (Nat.not_lt_zero _)⟩ (fun j4 xs K4 hj4 hI4 hK4=>?_)
 obtain ⟨x1,x2,x3⟩:=hI4
 refine zcs (fun hb=>?_) (fun _=>zaD ?_)
 · simp only [Bool.and_eq_true,decide_eq_true_eq] at hb
   refine zax (by simp only;omega) (zal (by simp only;omega) (wp_bind (zcW (by omega)) (fun a ha=>zal (by omega) (wp_bind (zcW (by omega)) (fun n hn=>wp_bind (zcW (by omega)) (fun d hd=>wp_bind (zcW (by omega)) (fun k hk=>?_)))))))
   refine zcr (by simp [-List.getD_eq_getElem?_getD];omega) (zal (by simp only;omega) (hK4 _ (by omega) ⟨by simp [-List.getD_eq_getElem?_getD,x1],zgX x2 ⟨by simp only;omega,by simp only;omega,by simp only;omega,by simp only;omega,.inl rfl⟩ (fun y hy=>?_),fun k hk=>?_⟩))
   · obtain ⟨k2,hk2,e⟩:=zbV hy
     have:=x3 k2 (by omega)
     rw [e] at this
     simp only;omega
   · rw [zca]
     by_cases e:k=xs.length
     · rw [if_pos e];simp only;omega
     · rw [if_neg e];exact x3 k (by omega)
 · refine ⟨⟨by simp only;omega,by simp only;omega,by simp only;omega,by simp only;omega,b3,m2,u3,x2,fun k hk=>m4 k (by simp only at hk;omega)⟩,⟨by simp only;omega,fun k hk=>b5 k (by simp only at hk;omega),by simp only;omega,fun k hk=>u5 k (by simp only at hk;omega)⟩,by simp only;omega,fun l hl=>?_⟩
   obtain ⟨k,hk,e⟩:=zbV (l:=xs) hl
   have:=x3 k (by omega)
   rw [e] at this
   omega
end Go.Sp
end
/- Plain laws, mantle: looks that are right by lives and minutes. No program in sight. -/
section
set_option linter.all false
namespace Go.Sp
open Go.Av
set_option maxRecDepth 100000
end Go.Sp
end
/- Plain laws, mantle: two looks; MantleTwo. No program in sight. -/
section
set_option linter.all false
namespace Go.Sp
open Go.Av
set_option maxRecDepth 100000
theorem zcC {w:Wear} {known:Int} {L:List Look} {m:Nat} {s:mantle_sight}:s∈sights w known L m↔∃ l∈L,fit w l.Lamp l.Night known=(m:Int)∧zap l.Known l.Until known=true∧s=toS l:=by
 rw [zeT,List.mem_map]
 constructor
 · rintro ⟨l,hl,e⟩
   obtain ⟨h1,h2⟩:=List.mem_filter.1 hl
   unfold zjB at h2
   rw [Bool.and_eq_true,decide_eq_true_eq] at h2
   exact ⟨l,h1,h2.1,h2.2,e.symm⟩
 · rintro ⟨l,hl,h1,h2,e⟩
   exact ⟨l,List.mem_filter.2 ⟨hl,by unfold zjB;rw [Bool.and_eq_true,decide_eq_true_eq];exact ⟨h1,h2⟩⟩,e.symm⟩
theorem zmo {w:Wear} {known:Int} {L T:List Look} (h:∀ l∈T,l∈L) {m:Nat}:∀ s∈sights w known T m,s∈sights w known L m:=fun s hs=>by
 obtain ⟨l,hl,k⟩:=zcC.1 hs
 exact zcC.2 ⟨l,h l hl,k⟩
theorem zgt {w:Wear} {known:Int} {L T:List Look} (h:∀ l∈T,l∈L) (hs:zbh w known (sights w known L)):zbh w known (sights w known T):=fun b hb=>by
 obtain ⟨x,h1,h2⟩:=hs b hb
 exact ⟨x,h1,fun i hi hbi=>(h2 i hi hbi).mono (zmo h)⟩
theorem zlb {w:Wear} (V:WearOk w) (known:Int):zbh w known (sights w known []):=fun b hb=>by
 have hl:=(V.ba b hb).1.life
 have hin:inR (ba w b).Life (ba w b).Life.Lo:=⟨Int.le_refl _,hl.2.1⟩
 exact ⟨_,hin,fun i hi _=>zos (znp V hb hin)⟩
theorem zo0 (a:Int):∀ l:List Int,∃ x,(x=a∨x∈l)∧a≤x∧∀ y∈l,y≤x
 | []=>⟨a,.inl rfl,Int.le_refl _,fun y hy=>by cases hy⟩
 | z::l=>by
  obtain ⟨x,h1,h2,h3⟩:=zo0 a l
  rcases Int.le_total z x with h|h
  · exact ⟨x,h1.imp id (List.mem_cons_of_mem _),h2,fun y hy=>by
     rcases List.mem_cons.1 hy with rfl|hy
     · exact h
     · exact h3 y hy⟩
  · exact ⟨z,.inr (List.mem_cons_self ..),by omega,fun y hy=>by
     rcases List.mem_cons.1 hy with rfl|hy
     · exact Int.le_refl _
     · have:=h3 y hy;omega⟩
theorem zla {w:Wear} (V:WearOk w) {known:Int} {L:List Look} (hp:∀ a∈L,∀ b∈L,zbh w known (sights w known [a,b])):zbh w known (sights w known L):=fun b hb=>by
 have hlf:=(V.ba b hb).1.life
 have hla:∀ {l:Look} {c:Look} {i:Nat},fit w l.Lamp l.Night known=(i:Int)→zap l.Known l.Until known=true→toS l∈sights w known [l,c] i:=fun h1 h2=>zcC.2 ⟨_,by simp [-List.getD_eq_getElem?_getD],h1,h2,rfl⟩
 have hlb:∀ {l:Look} {c:Look} {i:Nat},fit w l.Lamp l.Night known=(i:Int)→zap l.Known l.Until known=true→toS l∈sights w known [c,l] i:=fun h1 h2=>zcC.2 ⟨_,by simp [-List.getD_eq_getElem?_getD],h1,h2,rfl⟩
 obtain ⟨x,x1,x2,x3⟩:=zo0 (ba w b).Life.Lo ((L.filter (fun l=>(tells w known l && decide (bat w (fit w l.Lamp l.Night known).toNat=(b:Int))) && !l.Bad)).map (fun l=>ziW w known (fit w l.Lamp l.Night known) (-1) l.Night))
 -- where x comes from
 have hx:x=(ba w b).Life.Lo∨∃ l∈L,∃ i:Nat,fit w l.Lamp l.Night known=(i:Int)∧i<w.Mantles.length∧zap l.Known l.Until known=true∧bat w i=(b:Int)∧l.Bad=false∧x=ziW w known (i:Int) (-1) l.Night:=by
  refine x1.imp id (fun h=>?_)
  rw [List.mem_map] at h
  obtain ⟨l,hl,e⟩:=h
  obtain ⟨h1,h2⟩:=List.mem_filter.1 hl
  unfold tells at h2
  simp only [Bool.and_eq_true,decide_eq_true_eq,Bool.not_eq_true'] at h2
  obtain ⟨⟨⟨h3,h4⟩,h5⟩,h6⟩:=h2
  obtain ⟨i,hi⟩:∃ i:Nat,fit w l.Lamp l.Night known=(i:Int):=⟨_,(Int.toNat_of_nonneg h3).symm⟩
  have hlt:=zo3 w l.Lamp l.Night known
  rw [hi,Int.toNat_natCast] at h5
  rw [hi] at e
  exact ⟨l,h1,i,hi,by omega,h4,h5,h6,e.symm⟩
 have hin:inR (ba w b).Life x:=by
  refine ⟨x2,?_⟩
  rcases hx with rfl|⟨l,hl,i,h1,hlt,h2,h3,h4,rfl⟩
  · exact hlf.2.1
  · obtain ⟨y,y1,y2⟩:=hp l hl l hl b hb
    have:=(y2 i hlt h3).good (toS l) (hla h1 h2) h4
    have e:(toS l).night=l.Night:=rfl
    rw [e] at this
    unfold inR at y1
    omega
 refine ⟨x,hin,fun i hi hbi=>⟨znp V hb hin,fun s hs sb=>?_,fun s hs sb=>?_,fun s hs t ht sb tb=>?_⟩⟩
 · obtain ⟨l,hl,h1,h2,rfl⟩:=zcC.1 hs
   refine x3 _ (List.mem_map.2 ⟨l,List.mem_filter.2 ⟨hl,?_⟩,by rw [h1];rfl⟩)
   unfold tells
   rw [h1,h2,Int.toNat_natCast,hbi,show l.Bad=false from sb]
   simp [-List.getD_eq_getElem?_getD]
 · obtain ⟨l,hl,h1,h2,rfl⟩:=zcC.1 hs
   rcases hx with rfl|⟨l0,hl0,i0,k1,klt,k2,k3,k4,rfl⟩
   · obtain ⟨y,y1,y2⟩:=hp l hl l hl b hb
     have:=(y2 i hi hbi).bad (toS l) (hla h1 h2) sb
     unfold inR at y1
     omega
   · obtain ⟨y,y1,y2⟩:=hp l0 hl0 l hl b hb
     have a1:=(y2 i hi hbi).bad (toS l) (hlb h1 h2) sb
     have a2:=(y2 i0 klt k3).good (toS l0) (hla k1 k2) k4
     have e:(toS l0).night=l0.Night:=rfl
     rw [e] at a2
     omega
 · obtain ⟨l,hl,h1,h2,rfl⟩:=zcC.1 hs
   obtain ⟨l2,hl2,k1,k2,rfl⟩:=zcC.1 ht
   obtain ⟨y,y1,y2⟩:=hp l hl l2 hl2 b hb
   exact (y2 i hi hbi).two (toS l) (hla h1 h2) (toS l2) (hlb k1 k2) sb tb
theorem zec {l:List Look} {k i:Nat} (hk:k<l.length) (hi:i<l.length) (h:i≠k):l.getD i default∈without l k:=by
 unfold without
 rw [List.mem_append]
 rcases Nat.lt_or_ge i k with h1|h1
 · left
   have:(l.take k).getD i default∈l.take k:=zbQ (by rw [List.length_take];omega)
   rwa [getD_take,if_pos h1] at this
 · right
   have:(l.drop (k+1)).getD (i - (k+1)) default∈l.drop (k+1):=zbQ (by rw [List.length_drop];omega)
   rwa [getD_drop,show k+1+(i - (k+1))=i by omega] at this
theorem zpj {w:Wear} (V:WearOk w) {known:Int} {s:List Look} (hn:¬ zbh w known (sights w known s)) (hm:∀ i,i<s.length→zbh w known (sights w known (without s i))):s.length=1∨s.length=2:=by
 have h0:s.length≠0:=fun e=>by
  have:s=[]:=List.length_eq_zero_iff.1 e
  rw [this] at hn
  exact hn (zlb V known)
 refine Classical.byContradiction (fun hc=>hn (zla V (fun a ha b hb=>?_)))
 obtain ⟨i,hi,rfl⟩:=zbV ha
 obtain ⟨j,hj,rfl⟩:=zbV hb
 obtain ⟨k,hk,h1,h2⟩:∃ k,k<s.length∧i≠k∧j≠k:=by
  have h3:3≤s.length:=by omega
  by_cases e0:i=0∨j=0
  · by_cases e1:i=1∨j=1
    · exact ⟨2,by omega,by omega,by omega⟩
    · exact ⟨1,by omega,by omega,by omega⟩
  · exact ⟨0,by omega,by omega,by omega⟩
 refine zgt (fun l hl=>?_) (hm k hk)
 simp only [List.mem_cons,List.not_mem_nil,or_false] at hl
 rcases hl with rfl|rfl
 · exact zec hk hi h1
 · exact zec hk hj h2
theorem zkh {l:List Look} {k j:Nat} (hk:k<l.length) (hj:k≤j):(without l k).getD j default=l.getD (j+1) default:=by
 unfold without
 rw [ziE,List.length_take,if_neg (by omega),getD_drop]
 congr 1;omega
theorem ziu {l:List Look} {k:Nat} (hk:k<l.length) {x:Look} (h:x∈without l k):∃ i,i<l.length∧i≠k∧l.getD i default=x:=by
 unfold without at h
 rcases List.mem_append.1 h with h|h
 · obtain ⟨i,hi,e⟩:=zbV h
   rw [List.length_take] at hi
   rw [getD_take,if_pos (by omega)] at e
   exact ⟨i,by omega,by omega,e⟩
 · obtain ⟨i,hi,e⟩:=zbV h
   rw [List.length_drop] at hi
   rw [getD_drop] at e
   exact ⟨k+1+i,by omega,by omega,e⟩
theorem zgG {w:Wear} {known:Int}:∀ (n:Nat) {l:List Look},n≤l.length→¬ zbh w known (sights w known l)→(∀ j,n≤j→j<l.length→zbh w known (sights w known (without l j))) →
 (clashF w known n l).Sublist l∧¬ zbh w known (sights w known (clashF w known n l))∧∀ j,j<(clashF w known n l).length→zbh w known (sights w known (without (clashF w known n l) j))
 | 0,l,_,h1,h2=>⟨List.Sublist.refl _,h1,fun j hj=>h2 j (Nat.zero_le _) hj⟩
 | n+1,l,hn,h1,h2=>by
  by_cases h:zbh w known (sights w known (without l n))
  · rw [zn0 h]
    exact zgG n (by omega) h1 (fun j hj hj2=>by
     by_cases e:j=n
     · rw [e];exact h
     · exact h2 j (by omega) hj2)
  · rw [zn1 h]
    have hl:=zh7 (l:=l) (i:=n) (by omega)
    obtain ⟨a,b,c⟩:=zgG n (l:=without l n) (by omega) h (fun j hj hj2=>by
     refine zgt (fun x hx=>?_) (h2 (j+1) (by omega) (by omega))
     obtain ⟨i,hi,hne,e⟩:=ziu hj2 hx
     have hx2:x∈without l n:=e▸zbQ hi
     obtain ⟨i2,hi2,hne2,e2⟩:=ziu (by omega) hx2
     by_cases e3:i2=j+1
     · -- then x stands at j there,too: it stands elsewhere besides
       by_cases hin:i<n
       · have:(without l n).getD i default=l.getD i default:=by
          unfold without
          rw [ziE,List.length_take,if_pos (by omega),getD_take,if_pos hin]
         rw [this] at e
         rw [← e]
         exact zec (by omega) (by omega) (by omega)
       · have:=zkh (l:=l) (k:=n) (j:=i) (by omega) (by omega)
         rw [this] at e
         rw [← e]
         exact zec (by omega) (by omega) (by omega)
     · rw [← e2]
       exact zec (by omega) hi2 e3)
    exact ⟨a.trans (zeQ l n),b,c⟩
theorem zi6 (r:gasolierref06_Raw) (n:Int) (q:Arr2 Int):za2 1000 r n q=some true:=by
 unfold za2
 refine Wp.eq (zaN zmV (wp_bind (zpk (by omega) r []) (fun z hz=>wp_bind (zcW (by omega)) (fun known hk=>?_))))
 obtain ⟨w,t⟩:=z
 simp only at hz ⊢
 have V:=hz.ok
 have hn:za7 known:=⟨by omega,by omega⟩
 obtain ⟨a,a1,a2⟩:=znj V.fits (fuel:=1000) (by omega) known
 obtain ⟨c,c1,c2⟩:=znk V.fits (fuel:=1000) (by omega) known
 refine zaN a1 (zaN c1 ?_)
 obtain ⟨e0,e1⟩:=a2.ok V hn
 by_cases hs:zbh w known (allS w known)
 · have ea:a.1=true:=e1.2 hs
   have ec:=c2.none V hn hs
   rw [ec,e0,ea]
   refine zcP (by simp [-List.getD_eq_getElem?_getD]) (wp_bind (zcW (by omega)) (fun u hu=>zal (by omega) (wp_bind (zcW (by omega)) (fun v hv=>zal (by omega) ?_))))
   have hno:∀ q:List Int,q.length≤9223372036854775807→zbf 1000 w known q=some 68:=fun q hq=>by
    obtain ⟨d,d1,d2⟩:=zgk V.fits (fuel:=1000) (by omega) known hq
    rw [d1,d2.no V hn (fun ⟨s,h1,h2,_⟩=>h2 (zgt h1.all (by rw [zfs];exact hs)))]
   refine zdU rfl (zaN (hno _ (by simp [-List.getD_eq_getElem?_getD])) (zax (by simp [-List.getD_eq_getElem?_getD]) ?_))
   exact zmS (by simp [-List.getD_eq_getElem?_getD]) (hno _ (by simp [-List.getD_eq_getElem?_getD])) (zaD (by simp [-List.getD_eq_getElem?_getD]))
 · have ea:a.1=false:=by
    rw [← Bool.not_eq_true];exact fun k=>hs (e1.1 k)
   have ec:=c2.ok V hn hs
   have hs':¬ zbh w known (sights w known (zcQ w known)):=by rw [zfs];exact hs
   obtain ⟨k1,k2,k3⟩:=zgG (w:=w) (known:=known) (zcQ w known).length (Nat.le_refl _) hs' (fun j h1 h2=>by omega)
   have h12:=zpj V k2 k3
   have hsrt:(clashF w known (zcQ w known).length (zcQ w known)).Pairwise (fun a b=>a.Source<b.Source):=(zgs V known).sublist k1
   have hall:∀ x∈clashF w known (zcQ w known).length (zcQ w known),x∈zcQ w known:=fun x hx=>k1.mem hx
   rw [ec,e0,ea]
   generalize clashF w known (zcQ w known).length (zcQ w known)=s at k2 k3 h12 hsrt hall ⊢
   refine zcP (by simp [-List.getD_eq_getElem?_getD]) (wp_bind (zcW (by omega)) (fun u hu=>zal (by omega) (wp_bind (zcW (by omega)) (fun v hv=>zal (by omega) (zcP rfl ?_)))))
   have hb:((decide (((s.map (·.Source)).length:Int)=1)) || (decide (((s.map (·.Source)).length:Int)=2)))=true:=by
    rw [List.length_map,Bool.or_eq_true,decide_eq_true_eq,decide_eq_true_eq];omega
   have hget:∀ j,j<s.length→(s.map (·.Source)).getD j default=(lk s j).Source:=fun j hj=>by
    unfold lk
    rw [List.getD_eq_getElem?_getD,List.getElem?_map,List.getElem?_eq_getElem hj,List.getD_eq_getElem?_getD,List.getElem?_eq_getElem hj];rfl
   have hP:Picks w known (s.map (·.Source)) (s.map (·.Source)).length s:=by
    rw [List.length_map]
    refine ⟨rfl,fun j hj=>⟨hall _ (zbQ hj),(hget j hj).symm⟩,fun j h0 hj=>?_⟩
    rw [hget j hj,hget (j - 1) (by omega)]
    exact zfr (f:=fun l:Look=>l.Source) hsrt (by omega) hj
   obtain ⟨d,d1,d2⟩:=zgk V.fits (fuel:=1000) (by omega) known (q:=s.map (·.Source)) (by rw [List.length_map];omega)
   have hd:=d2.yes V hn ⟨s,hP,k2,k3⟩
   rw [hd] at d1
   refine zmS (by simp only [hb];rfl) d1 (zaD ?_)
   simp only [hb]
   rfl
end Go.Sp
end
