/- Texts of the framework, or of the plain law, one behind another. -/
import Derived.Test.YtilbmfgiigbeiaaGreatFr1
import Derived.Test.YtilbmfgiigbeiaaGreatFr4
import Derived.KernelRfl
/- Rules for plain laws: what a printed definition yields. No program in sight. -/
section
set_option linter.all false
namespace Go.Sp
open Go.Av
def Wp {R:Type} (x:Option R) (P:R→Prop):Prop:=∃ r,x=some r∧P r
theorem Wp.eq {R:Type} {x:Option R} {v:R} (h:Wp x (· = v)):x=some v:=by
 obtain ⟨r,h1,h2⟩:=h;rw [h1,h2]
theorem Wp.of_eq {R:Type} {x:Option R} {v:R} {P:R→Prop} (h:x=some v) (hp:P v):Wp x P:=⟨v,h,hp⟩
theorem Wp.mono {R:Type} {x:Option R} {P Q:R→Prop} (h:Wp x P) (hp:∀ r,P r→Q r):Wp x Q:=by
 obtain ⟨r,h1,h2⟩:=h;exact ⟨r,h1,hp r h2⟩
theorem zap {R:Type} {r:R} {P:R→Prop} (h:P r):Wp (some r) P:=⟨r,rfl,h⟩
theorem zae {R:Type} {c:Prop} [Decidable c] {x:Option R} {P:R→Prop} (h:c) (k:Wp x P):Wp (must c x) P:=by
 unfold must;rw [if_pos h];exact k
theorem wp_bind {S R:Type} {x:Option S} {k:S→Option R} {P:R→Prop} {Q:S→Prop} (h:Wp x Q) (hk:∀ s,Q s→Wp (k s) P):Wp (zar x k) P:=by
 obtain ⟨r,h1,h2⟩:=h;rw [h1];exact hk r h2
theorem zaq {S R:Type} {x:Option S} {k:S→Option R} {P:R→Prop} {v:S} (h:x=some v) (hk:Wp (k v) P):Wp (zar x k) P:=by
 rw [h];exact hk
theorem zbS {R:Type} {b:Bool} {x y:Option R} {P:R→Prop} (h1:b=true→Wp x P) (h2:b=false→Wp y P):Wp (bif b then x else y) P:=by
 cases b
 · exact h2 rfl
 · exact h1 rfl
theorem wp_if {R:Type} {p:Prop} {b:Bool} {x y:Option R} {P:R→Prop} (hb:b=true↔p) (h1:p→Wp x P) (h2:¬ p→Wp y P):Wp (bif b then x else y) P:=
 zbS (fun h=>h1 (hb.1 h)) (fun h=>h2 (fun hp=>by rw [hb.2 hp] at h;cases h))
theorem zcA {R:Type} {p:Prop} [Decidable p] {x y:Option R} {P:R→Prop} (h1:p→Wp x P) (h2:¬ p→Wp y P):Wp (bif (decide p) then x else y) P:=
 wp_if (decide_eq_true_iff) h1 h2
theorem zoS {R:Type} {p:Prop} [Decidable p] {x y:Option R} {P:R→Prop} (h1:¬ p→Wp x P) (h2:p→Wp y P):Wp (bif (!decide p) then x else y) P:=
 zbS (fun h=>h1 (by simpa using h)) (fun h=>h2 (by simpa using h))
theorem zbU {R:Type} {b:Bool} {x y:Option R} {P:R→Prop} (h:b=true) (h1:Wp x P):Wp (bif b then x else y) P:=by rw [h];exact h1
theorem zay {R:Type} {b:Bool} {x y:Option R} {P:R→Prop} (h:b=false) (h1:Wp y P):Wp (bif b then x else y) P:=by rw [h];exact h1
theorem zkD {S R:Type} {f:(S→Option R)→Option R} {k:S→Option R} {P:R→Prop} (G:S→Prop) (hf:∀ K:S→Option R,(∀ s,G s→Wp (K s) P)→Wp (f K) P) (hk:∀ s,G s→Wp (k s) P):Wp (zet f k) P:=hf k hk
theorem ziO {S R:Type} {f:(S→Option R)→Option R} {k:S→Option R} {P:R→Prop} (h:Wp (f k) P):Wp (zet f k) P:=h
theorem zaV {S R:Type} {body:Nat→S→(S→Option R)→Option R} {ex:S→Option R} {n:Nat} {s0:S} {P:R→Prop} (Inv:Nat→S→Prop) (h0:Inv 0 s0)
 (hb:∀ (i:Nat) s (K:S→Option R),i<n→Inv i s→(∀ s',Inv (i+1) s'→Wp (K s') P)→Wp (body i s K) P) (he:∀ s,Inv n s→Wp (ex s) P):Wp (zah body ex n 0 s0) P:=by
 have go:∀ (m i:Nat),i+m=n→∀ s,Inv i s→Wp (zah body ex m i s) P:=by
  intro m
  induction m with
  | zero=>intro i hi s hs;have e:i=n:=(by omega);subst e;exact he s hs
  | succ m ih=>intro i hi s hs;exact hb i s _ (by omega) hs (fun s' h'=>ih (i+1) (by omega) s' h')
 exact go n 0 (by omega) s0 h0
theorem wp_loop {S R:Type} {body:S→(S→Option R)→Option R} {fuel:Nat} {s0:S} {P:R→Prop} (Inv:S→Prop) (μ:S→Nat) (hf:μ s0<fuel) (h0:Inv s0)
 (hb:∀ s (K:S→Option R),Inv s→(∀ s',Inv s'→μ s'<μ s→Wp (K s') P)→Wp (body s K) P):Wp (loopGo body fuel s0) P:=by
 have go:∀ (f:Nat) s,Inv s→μ s<f→Wp (loopGo body f s) P:=by
  intro f
  induction f with
  | zero=>intro s _ h;omega
  | succ f ih=>intro s hs hm;exact hb s _ hs (fun s' h' hl=>ih s' h' (by omega))
 exact go fuel s0 h0 hf
theorem zlu {S R:Type} {body:(Int×S)→((Int×S)→Option R)→Option R} {fuel:Nat} {s0:S} {P:R→Prop} (n:Nat) (hf:n<fuel) (Inv:Nat→S→Prop) (h0:Inv 0 s0)
 (hb:∀ (i:Nat) s (K:(Int×S)→Option R),i≤n→Inv i s→(∀ s',i<n→Inv (i+1) s'→Wp (K ((i:Int)+1,s')) P)→Wp (body ((i:Int),s) K) P):Wp (loopGo body fuel (0,s0)) P:=by
 have go:∀ (f i:Nat) s,i≤n→n - i<f→Inv i s→Wp (loopGo body f ((i:Int),s)) P:=by
  intro f
  induction f with
  | zero=>intro i s _ h;omega
  | succ f ih=>intro i s hi hm hs;exact hb i s _ hi hs (fun s' hl h'=>ih (i+1) s' (by omega) (by omega) h')
 exact go fuel 0 s0 (by omega) (by omega) h0
end Go.Sp
end
/- More rules for plain laws. No program in sight. -/
section
set_option linter.all false
namespace Go.Sp
open Go.Av
theorem zat {R:Type} {n:Int} {x:Option R} {P:R→Prop} (h : -9223372036854775808≤n∧n≤9223372036854775807) (k:Wp x P):Wp (must (inI n) x) P:=zae h k
theorem ze7 {R:Type} {n b:Nat} {x:Option R} {P:R→Prop} (h:n * b≤140737488355328∧n≤9223372036854775807) (k:Wp x P):Wp (must (room n b) x) P:=zae h k
theorem zn2 {R:Type} {w:Prop} [Decidable w] {n:Int} {x:Option R} {P:R→Prop} (h:w → -9223372036854775808≤n∧n≤9223372036854775807) (k:Wp x P):Wp (must (w→inI n) x) P:=zae h k
theorem zkC {S R:Type} [Inhabited S] {W:Bool} {x:Option S} {k:S→Option R} {P:R→Prop} {Q:S→Prop} (h:W=true→Wp x Q) (hk:∀ s,(W=true→Q s)→Wp (k s) P):Wp (zar (bif W then x else some default) k) P:=by
 cases W
 · exact hk _ (fun h=>by cases h)
 · exact wp_bind (h rfl) (fun s hs=>hk s (fun _=>hs))
end Go.Sp
end
/- Rules for plain laws, more of them. No program in sight. -/
section
set_option linter.all false
namespace Go.Sp
open Go.Av
theorem zaN {R:Type} {body:Nat→Unit→(Unit→Option R)→Option R} {ex:Unit→Option R} {n:Nat} {P:R→Prop} (good:Nat→Prop)
 (hb:∀ (i:Nat) (K:Option R),i<n→(∀ j,j<i→good j)→(good i→Wp K P)→Wp (body i () (fun _=>K)) P) (he:(∀ j,j<n→good j)→Wp (ex ()) P):Wp (zah body ex n 0 ()) P:=by
 refine zaV (fun i _=>∀ j,j<i→good j) (fun j hj=>by omega) (fun i s K hi hI hK=>?_) (fun s hs=>he hs)
 have e:K=fun _=>K ():=funext fun u=>rfl
 rw [e]
 exact hb i (K ()) hi hI (fun g=>hK () (fun j hj=>by
  by_cases e:j=i
  · rw [e];exact g
  · exact hI j (by omega)))
theorem zgJ {S R:Type} {W:Bool} {x y:Option S} {k:S→Option R} {P:R→Prop} {v:S} (hW:W=true) (h:x=some v) (hk:Wp (k v) P):Wp (zar (bif W then x else y) k) P:=by
 subst hW;rw [h];exact hk
theorem zgh {S R:Type} {W:Bool} {x y:Option S} {k:S→Option R} {P:R→Prop} {v:S} (hW:W=false) (h:y=some v) (hk:Wp (k v) P):Wp (zar (bif W then x else y) k) P:=by
 subst hW;rw [h];exact hk
theorem zdd {R:Type} {c:Prop} [Decidable c] (h:c) (x:Option R):must c x=x:=if_pos h
theorem zev {T:Type} (l:List T) (i j:Nat) (x d:T) (hi:i<l.length):(l.set i x).getD j d=if j=i then x else l.getD j d:=by
 simp only [List.getD_eq_getElem?_getD]
 by_cases e:j=i
 · subst e;rw [List.getElem?_set_self hi,if_pos rfl];rfl
 · rw [List.getElem?_set_ne (fun h=>e h.symm),if_neg e]
theorem zee {T:Type} (l:List T) (x d:T) (i:Nat):(l++[x]).getD i d=if i=l.length then x else l.getD i d:=by
 simp only [List.getD_eq_getElem?_getD]
 rcases Nat.lt_trichotomy i l.length with h|h|h
 · rw [List.getElem?_append_left h,if_neg (by omega)]
 · subst h;simp
 · rw [if_neg (by omega),List.getElem?_eq_none (by simp;omega),List.getElem?_eq_none (by omega)]
theorem zft {T:Type} (n i:Nat) (x:T):(List.replicate n x).getD i x=x:=by
 simp only [List.getD_eq_getElem?_getD,List.getElem?_replicate]
 split <;> rfl
theorem zbf {T:Type} [Inhabited T] {l:List T} {i:Nat} (h:i<l.length):l.getD i default∈l:=by
 rw [List.getD_eq_getElem?_getD,List.getElem?_eq_getElem h];exact List.getElem_mem h
theorem zbK {T:Type} [Inhabited T] {l:List T} {x:T} (h:x∈l):∃ i,i<l.length∧l.getD i default=x:=by
 obtain ⟨i,hi,rfl⟩:=List.getElem_of_mem h
 exact ⟨i,hi,by rw [List.getD_eq_getElem?_getD,List.getElem?_eq_getElem hi];rfl⟩
theorem getD_take {T:Type} (l:List T) (n i:Nat) (d:T):(l.take n).getD i d=if i<n then l.getD i d else d:=by
 simp only [List.getD_eq_getElem?_getD,List.getElem?_take]
 split <;> rfl
theorem getD_drop {T:Type} (l:List T) (n i:Nat) (d:T):(l.drop n).getD i d=l.getD (n+i) d:=by
 simp only [List.getD_eq_getElem?_getD,List.getElem?_drop]
theorem zow {T:Type} [Inhabited T] {l r:List T} (hl:l.length=r.length) (h:∀ i,i<l.length→l.getD i default=r.getD i default):l=r:=by
 refine List.ext_getElem hl (fun i h1 h2=>?_)
 have:=h i h1
 rw [List.getD_eq_getElem?_getD,List.getD_eq_getElem?_getD,List.getElem?_eq_getElem h1,List.getElem?_eq_getElem h2] at this
 exact this
theorem zdu {T:Type} [DecidableEq T]:∀ {l r:List T},l.Nodup→(∀ x∈l,x∈r)→l.length≤r.length
 | [],r,_,_=>Nat.zero_le _
 | x::l,r,hn,hs=>by
  have hx:=hs x List.mem_cons_self
  rw [List.nodup_cons] at hn
  have:=zdu (l:=l) (r:=r.erase x) hn.2 (fun y hy=>(List.mem_erase_of_ne (fun (e:y=x)=>hn.1 (e▸hy))).2 (hs y (List.mem_cons_of_mem _ hy)))
  rw [List.length_erase_of_mem hx] at this
  have:=List.length_pos_of_mem hx
  simp only [List.length_cons];omega
theorem zdC {S T:Type} {f:S→T}:∀ {l:List S},l.Nodup→(∀ x∈l,∀ y∈l,f x=f y→x=y)→(l.map f).Nodup
 | [],_,_=>List.nodup_nil
 | x::l,hn,hi=>by
  rw [List.nodup_cons] at hn
  rw [List.map_cons,List.nodup_cons]
  refine ⟨fun hm=>?_,zdC hn.2 (fun a ha b hb=>hi a (List.mem_cons_of_mem _ ha) b (List.mem_cons_of_mem _ hb))⟩
  obtain ⟨y,hy,e⟩:=List.mem_map.1 hm
  have:=hi x List.mem_cons_self y (List.mem_cons_of_mem _ hy) e.symm
  exact hn.1 (this▸hy)
theorem zb9 {S T:Type} [DecidableEq T] {l:List S} {r:List T} (f:S→T) (hn:l.Nodup) (hm:∀ x∈l,f x∈r) (hi:∀ x∈l,∀ y∈l,f x=f y→x=y):l.length≤r.length:=by
 have:=zdu (zdC hn hi) (r:=r) (fun y hy=>by obtain ⟨x,hx,rfl⟩:=List.mem_map.1 hy;exact hm x hx)
 rwa [List.length_map] at this
theorem zlY {x:Int} {j:Nat} (h:0≤x):Int.fdiv x (2 ^ j)=((x.toNat >>> j:Nat):Int):=by
 obtain ⟨n,rfl⟩:=Int.eq_ofNat_of_zero_le h
 rw [Int.toNat_natCast,Nat.shiftRight_eq_div_pow]
 have:(2:Int) ^ j=((2 ^ j:Nat):Int):=by simp
 rw [this,Int.fdiv_eq_ediv_of_nonneg _ (Int.natCast_nonneg _)]
 exact (Int.natCast_ediv _ _).symm
theorem zpO (n j:Nat):(n >>> j) &&& 1=if n.testBit j then 1 else 0:=by
 unfold Nat.testBit
 rcases Nat.mod_two_eq_zero_or_one (n >>> j) with h|h
 · simp [Nat.and_comm 1,Nat.and_one_is_mod,h]
 · simp [Nat.and_comm 1,Nat.and_one_is_mod,h]
theorem zoY {n j k:Nat}:(n ||| 2 ^ j).testBit k=(n.testBit k || decide (k=j)):=by
 rw [Nat.testBit_or,Nat.testBit_two_pow]
 congr 1
 exact decide_eq_decide.2 eq_comm
theorem or_lt {n j m:Nat} (hn:n<2 ^ m) (hj:j<m):n ||| 2 ^ j<2 ^ m:=Nat.or_lt_two_pow hn (Nat.pow_lt_pow_right (by omega) hj)
def flw (n:Nat) (W:Nat→Bool) (j:Nat):List Int:=((List.range' j (n - j)).filter W).map (fun (k:Nat)=>(k:Int))
theorem zou {n:Nat} {W:Nat→Bool} {j:Nat} (h:j<n):flw n W j=if W j=true then (j:Int)::flw n W (j+1) else flw n W (j+1):=by
 unfold flw
 rw [show n - j=(n - (j+1))+1 by omega,List.range'_succ,List.filter_cons]
 split <;> rfl
theorem zpE {n:Nat} {W:Nat→Bool} {j:Nat} (h:n≤j):flw n W j=[]:=by
 unfold flw
 rw [show n - j=0 by omega];rfl
theorem zmA {A:Type} {body:Nat→Unit→(Unit→Option (List A))→Option (List A)} {n:Nat} (W:Nat→Bool) (x:Nat→A)
 (hb:∀ (i:Nat) (r:Option (List A)),i<n→body i () (fun _=>r)=zgR (W i) (x i) r):zah body (fun _=>some []) n 0 ()=some (((List.range' 0 n).filter W).map x):=by
 have go:∀ m i,i+m=n→zah body (fun _=>some []) m i ()=some (((List.range' i m).filter W).map x):=by
  intro m
  induction m with
  | zero=>intro i _;rfl
  | succ m ih=>
   intro i hi
   have e:zah body (fun _=>some []) (m+1) i ()=body i () (fun u=>zah body (fun _=>some []) m (i+1) u):=rfl
   rw [e]
   have e2:(fun u=>zah body (fun _=>some ([]:List A)) m (i+1) u)=fun _=>some (((List.range' (i+1) m).filter W).map x):=by
    funext u;exact ih (i+1) (by omega)
   rw [e2,hb i _ (by omega),List.range'_succ,List.filter_cons]
   cases W i <;> rfl
 exact go n 0 (by omega)
theorem zoT {S R:Type} {body:Int→S→(S→Option R)→Option R} {ex:S→Option R} {s0:S} {P:R→Prop} (n:Nat) (W:Nat→Bool) (Inv:Nat→S→Prop) (h0:Inv 0 s0)
 (skip:∀ (j:Nat) s,j<n→W j=false→Inv j s→Inv (j+1) s)
 (hb:∀ (j:Nat) s (K:S→Option R),j<n→W j=true→Inv j s→(∀ s',Inv (j+1) s'→Wp (K s') P)→Wp (body (j:Int) s K) P) (he:∀ s,Inv n s→Wp (ex s) P):Wp (zdk body ex (flw n W 0) s0) P:=by
 have go:∀ (m j:Nat),j+m=n→∀ s,Inv j s→Wp (zdk body ex (flw n W j) s) P:=by
  intro m
  induction m with
  | zero=>intro j hj s hs;have e:j=n:=(by omega);subst e;rw [zpE (Nat.le_refl _)];exact he s hs
  | succ m ih=>
   intro j hj s hs
   rw [zou (by omega)]
   cases hW:W j with
   | true=>rw [if_pos rfl];exact hb j s _ (by omega) hW hs (fun s' h'=>ih (j+1) (by omega) s' h')
   | false=>rw [if_neg (by simp)];exact ih (j+1) (by omega) s (skip j s (by omega) hW hs)
 exact go n 0 (by omega) s0 h0
def mu (n:Nat) (P:Nat→Bool):Nat:=(List.range n).countP (fun k=>!P k)
theorem zon (n:Nat) (P:Nat→Bool):mu n P≤n:=by
 have:=List.countP_le_length (p:=fun k=>!P k) (l:=List.range n)
 rwa [List.length_range] at this
theorem ziV {n:Nat} {P Q:Nat→Bool} (h:∀ k,P k=true→Q k=true):mu n Q≤mu n P:=
 List.countP_mono_left (fun k _ hk=>by
  cases hP:P k with
  | false=>rfl
  | true=>rw [h k hP] at hk;cases hk)
theorem zkf {T:Type} {p q:T→Bool} {a:T}:∀ {l:List T},(∀ x,x∈l→p x=true→q x=true)→a∈l→q a=true→p a=false→l.countP p<l.countP q
 | x::l,h,ha,hq,hp=>by
  rw [List.countP_cons,List.countP_cons]
  have hm:l.countP p≤l.countP q:=List.countP_mono_left (fun y hy=>h y (List.mem_cons_of_mem _ hy))
  rcases List.mem_cons.1 ha with rfl|ha
  · rw [hp,hq];simp;omega
  · have:=zkf (l:=l) (fun y hy=>h y (List.mem_cons_of_mem _ hy)) ha hq hp
    have hx:=h x List.mem_cons_self
    cases hpx:p x with
    | false=>simp;omega
    | true=>rw [hx hpx];simp;omega
theorem zom {n j:Nat} {P Q:Nat→Bool} (h:∀ k,P k=true→Q k=true) (hj:j<n) (hP:P j=false) (hQ:Q j=true):mu n Q<mu n P:=
 zkf (a:=j) (fun k _ hk=>by
  cases hPk:P k with
  | false=>rfl
  | true=>rw [h k hPk] at hk;cases hk) (List.mem_range.2 hj) (by rw [hP];rfl) (by rw [hQ];rfl)
end Go.Sp
end
/- Plain laws, TopLit: the bye-law of the town, duties, lawful times. No program in sight. -/
section
set_option linter.all false
namespace Go.Sp
open Go.Av
set_option maxRecDepth 100000
def lv (s m f:Int):Version:=⟨1,1,0,⟨s,s+20+m⟩,⟨5,60⟩,1001,f,0,0⟩
def lb (s m f k:Int):Bylaw:=⟨[lv s m f],[⟨1,1,1,1,k⟩]⟩
def ln (a b g:Int):Night:=⟨7,⟨a,a+b⟩,⟨1080,1085⟩,⟨0,0⟩,g⟩
structure LawOk (s m f k a b g:Int):Prop where
 s:0≤s∧s<30
 m:0≤m∧m<60
 f:0≤f∧f<20
 k:1≤k∧k≤9
 a:300≤a∧a<320
 b:0≤b∧b<10
 g:0≤g∧g<3
theorem binT {n lo hi:Int} (h1:lo≤n) (h2:n≤hi):zau n lo hi=true:=by
 unfold zau;rw [decide_eq_true h1,decide_eq_true h2];rfl
section
variable {s m f k a b g:Int}
theorem zi0 (H:LawOk s m f k a b g):zcK (lb s m f k)=some 0:=by
 have h1:=H.s;have h2:=H.m;have h3:=H.f;have h4:=H.k
 have ev:zaS (lv s m f)=some 0:=by
  refine Wp.eq ?_
  unfold zaS lv
  refine zae (fun _=>by unfold inI;dsimp only;omega) (zay ?_ (zap rfl))
  simp [zau,zaJ,zaL]
  omega
 have es:za0 (⟨1,1,1,1,k⟩:Street)=some 0:=by
  refine Wp.eq ?_
  unfold za0
  refine zae (fun _=>by unfold inI;dsimp only;omega) (zae (fun _=>by unfold inI;dsimp only;omega) (zay ?_ (zap rfl)))
  simp [zau]
  omega
 refine Wp.eq ?_
 unfold zcK lb
 have a1:zbv [lv s m f] 60 (fun x0=>zaS x0) (fun x0=>some (zci x0))=some true:=by
  refine Wp.eq ?_
  unfold zbv
  refine zaN (fun _=>True) (fun i K hi _ hK=>?_) (fun _=>zap rfl)
  have:i=0:=by simpa using hi
  subst this
  refine zaq (show zaS ([lv s m f].getD 0 default)=some 0 from ev) ?_
  exact zae (fun h=>by simp at h) (zae (fun h=>by simp at h) (zgh rfl rfl (zgh rfl rfl (zay rfl (hK trivial)))))
 have a2:zbF [⟨1,1,1,1,k⟩] 20 (fun x0=>za0 x0) (fun x0=>some (zdz x0))=some true:=by
  refine Wp.eq ?_
  unfold zbF
  refine zaN (fun _=>True) (fun i K hi _ hK=>?_) (fun _=>zap rfl)
  have:i=0:=by simpa using hi
  subst this
  refine zaq (show za0 (([⟨1,1,1,1,k⟩]:List Street).getD 0 default)=some 0 from es) ?_
  exact zae (fun h=>by simp at h) (zae (fun h=>by simp at h) (zgh rfl rfl (zgh rfl rfl (zay rfl (hK trivial)))))
 refine zaq a1 (zgJ rfl a2 (zay rfl ?_))
 refine zaN (fun _=>True) (fun i K hi _ hK=>?_) (fun _=>zap rfl)
 have:i=0:=by simpa using hi
 subst this
 exact zae (by simp) (zaN (fun _=>True) (fun j K2 hj=>by simp at hj) (fun _=>hK trivial))
theorem zoo (H:LawOk s m f k a b g):za8 (ln a b g)=0:=by
 have h1:=H.a;have h2:=H.b;have h3:=H.g
 unfold za8 ln
 refine Eq.trans (congrArg (fun c=>cond c (12:Int) 0) (?_:_=false)) rfl
 simp [zau,zaJ,zaL]
 omega
theorem zlO (H:LawOk s m f k a b g) {lamp:Int} (hl:1≤lamp∧lamp≤k) (n:Night) (hn:n.No=7):zdb (lb s m f k) lamp n 3=some (⟨lv s m f,n⟩,0):=by
 have h1:=H.s;have h2:=H.m;have h3:=H.f;have h4:=H.k
 have eh:za7 (⟨1,1,1,1,k⟩:Street) lamp=some true:=by
  refine Wp.eq ?_
  unfold za7 zem
  refine zaq (v:=true) ?_ (zap rfl)
  refine Wp.eq (zat (by dsimp only;omega) (zat (by dsimp only;omega) (zap ?_)))
  simp [zau]
  omega
 have es:zcF (lb s m f k) lamp=some (⟨1,1,1,1,k⟩,0):=by
  refine Wp.eq ?_
  unfold zcF
  have ei:za1 (lb s m f k).Streets (fun x0=>za7 x0 lamp)=some 0:=by
   refine Wp.eq ?_
   unfold za1
   refine zaN (fun _=>False) (fun i K hi _ hK=>?_) (fun h=>absurd (h 0 (by simp [lb])) id)
   have:i=0:=by simpa [lb] using hi
   subst this
   exact zaq (show za7 ((lb s m f k).Streets.getD 0 default) lamp=some true from eh) (zbU rfl (zap rfl))
  exact zaq ei (zay rfl (zae (by simp [lb]) (zap rfl)))
 refine Wp.eq ?_
 unfold zdb
 refine zaq es (zay rfl ?_)
 have ef:zc2 (lb s m f k) 1 n.No 3=some (lv s m f,0):=by
  rw [hn]
  refine Wp.eq ?_
  unfold zc2
  refine zaV (fun i v=>if i=0 then v=⟨0,0,0,⟨0,0⟩,⟨0,0⟩,0,0,0,0⟩ else v=lv s m f) rfl (fun i v K hi hI hK=>?_) (fun v hI=>?_)
  · have:i=0:=by simpa [lb] using hi
    subst this
    rw [if_pos rfl] at hI
    subst hI
    exact zbU rfl (hK _ rfl)
  · rw [if_neg (by simp [lb])] at hI
    subst hI
    exact zay rfl (zap rfl)
 exact zaq ef (zap rfl)
theorem znf (H:LawOk s m f k a b g) {lamp:Int} (hl:1≤lamp∧lamp≤k):zdy (lb s m f k) lamp (ln a b g) 3=some (⟨lv s m f,ln a b g⟩,0):=by
 refine Wp.eq ?_
 unfold zdy
 refine zaq (zi0 H) (zay rfl ?_)
 rw [zoo H]
 exact zay rfl (zay rfl (zaq (zlO H hl _ rfl) (zap rfl)))
def fogS (f g:Int):Int:=if g=1 then f else 0
def fogM (f g:Int):Int:=if g=1∨g=2 then f else 0
theorem on_eq (H:LawOk s m f k a b g):zbs ⟨lv s m f,ln a b g⟩=some ⟨a+b+s - fogS f g,a+(s+20+m) - fogM f g⟩:=by
 have h1:=H.s;have h2:=H.m;have h3:=H.f;have h4:=H.k;have h5:=H.a;have h6:=H.b;have h7:=H.g
 have e1:zaZ ⟨lv s m f,ln a b g⟩ [1]=some (fogS f g):=by
  refine Wp.eq ?_
  unfold zaZ fogS
  refine zaN (fun i=>g≠1) (fun i K hi _ hK=>?_) (fun h=>zap ?_)
  · have:i=0:=by simpa using hi
    subst this
    refine zcA (fun h=>zap ?_) (fun h=>hK h)
    have h:g=1:=h
    rw [if_pos h];rfl
  · rw [if_neg (h 0 (by simp))]
 have e2:zaZ ⟨lv s m f,ln a b g⟩ [1,2]=some (fogM f g):=by
  refine Wp.eq ?_
  unfold zaZ fogM
  refine zaN (fun i=>g≠([1,2]:List Int).getD i default) (fun i K hi _ hK=>?_) (fun h=>zap ?_)
  · refine zcA (fun h=>zap ?_) (fun h=>hK h)
    have h:g=([1,2]:List Int).getD i default:=h
    have hi:i<2:=hi
    have:g=1∨g=2:=by
     rcases Nat.lt_or_ge i 1 with q|q
     · have:i=0:=by omega
       subst this;exact .inl h
     · have:i=1:=by omega
       subst this;exact .inr h
    rw [if_pos this];rfl
  · rw [if_neg (fun q=>by rcases q with q|q;exact h 0 (by simp) q;exact h 1 (by simp) q)]
 have b1:0≤fogS f g∧fogS f g≤fogM f g∧fogM f g<20:=by unfold fogS fogM;split <;> split <;> omega
 refine Wp.eq ?_
 unfold zbs
 refine zat (by simp only [lv,ln];omega) (zaq e1 (zat (by simp only [lv,ln];omega) (zat (by simp only [lv,ln];omega) (zaq e2 (zat (by simp only [lv,ln];omega) (zap ?_))))))
 unfold zb5
 simp only [lv,ln]
 congr 1 <;> omega
theorem zo0:zaO ⟨lv s m f,ln a b g⟩=some ⟨1025,1075⟩:=by
 refine Wp.eq ?_
 unfold zaO
 exact zat (by simp only [lv,ln];omega) (zat (by simp only [lv,ln];omega) (zap rfl))
theorem zlM:zaP ⟨lv s m f,ln a b g⟩=1:=by
 unfold zaP
 simp [lv,ln]
def onL (s f a b g:Int):Int:=a+b+s - fogS f g
def onH (s m f a g:Int):Int:=a+(s+20+m) - fogM f g
theorem zpI (H:LawOk s m f k a b g) {lamp:Int} (hl:1≤lamp∧lamp≤k) :
 zeo (lb s m f k) lamp (ln a b g) 3=some (if onH s m f a g<onL s f a b g then (⟨0,⟨0,0⟩,⟨0,0⟩⟩,16) else (⟨1,⟨onL s f a b g,onH s m f a g⟩,⟨1025,1075⟩⟩,0)):=by
 refine Wp.eq ?_
 unfold zeo
 refine zaq (znf H hl) (zay rfl ?_)
 have e:zbN ⟨lv s m f,ln a b g⟩=some (if onH s m f a g<onL s f a b g then (⟨0,⟨0,0⟩,⟨0,0⟩⟩,16) else (⟨1,⟨onL s f a b g,onH s m f a g⟩,⟨1025,1075⟩⟩,0)):=by
  refine Wp.eq ?_
  unfold zbN
  rw [zlM]
  refine zay rfl ?_
  have e1:zaG ⟨lv s m f,ln a b g⟩ (zbs ⟨lv s m f,ln a b g⟩)=some (if onH s m f a g<onL s f a b g then (⟨0,0⟩,16) else (⟨onL s f a b g,onH s m f a g⟩,0)):=by
   refine Wp.eq ?_
   unfold zaG
   rw [zlM,on_eq H]
   refine zay rfl (zaq rfl ?_)
   refine zcA (fun h=>?_) (fun h=>?_)
   · have h:onH s m f a g<onL s f a b g:=h
     rw [if_pos h];exact zap rfl
   · have h:¬ onH s m f a g<onL s f a b g:=h
     rw [if_neg h];exact zap rfl
  have e2:zaG ⟨lv s m f,ln a b g⟩ (zaO ⟨lv s m f,ln a b g⟩)=some (⟨1025,1075⟩,0):=by
   refine Wp.eq ?_
   unfold zaG
   rw [zlM,zo0]
   exact zay rfl (zaq rfl (zay rfl (zap rfl)))
  refine zaq e1 ?_
  by_cases h:onH s m f a g<onL s f a b g
  · rw [if_pos h,if_pos h];exact zbU rfl (zap rfl)
  · rw [if_neg h,if_neg h]
    exact zay rfl (zaq e2 (zay rfl (zap rfl)))
 exact zaq e (zap rfl)
theorem zpN (H:LawOk s m f k a b g) {lamp:Int} (hl:1≤lamp∧lamp≤k):ze4 (lb s m f k) lamp (ln a b g) 3=some (⟨1025,1075⟩,0):=by
 refine Wp.eq ?_
 unfold ze4
 refine zaq (znf H hl) (zay rfl ?_)
 have e2:zaG ⟨lv s m f,ln a b g⟩ (zaO ⟨lv s m f,ln a b g⟩)=some (⟨1025,1075⟩,0):=by
  refine Wp.eq ?_
  unfold zaG
  rw [zlM,zo0]
  exact zay rfl (zaq rfl (zay rfl (zap rfl)))
 exact zaq e2 (zap rfl)
theorem true_eq (H:LawOk s m f k a b g) {lamp:Int} (hl:1≤lamp∧lamp≤k) {x:Truth} (hx1:a≤x.Set∧x.Set≤a+b) (hx2:1080≤x.Rise∧x.Rise≤1085) (hx3:x.Light=0) (hx4:(g=1→x.Fog=true)∧(g=0→x.Fog=false))
 {t:Int} (ht:onL s f a b g≤t∧t≤onH s m f a g):zen (lb s m f k) lamp 7 x ⟨t,1025⟩ 3=some (true,0):=by
 have h1:=H.s;have h2:=H.m;have h3:=H.f;have h4:=H.k;have h5:=H.a;have h6:=H.b;have h7:=H.g
 have b1:0≤fogS f g∧fogS f g≤fogM f g∧fogM f g<20:=by unfold fogS fogM;split <;> split <;> omega
 have ht':281≤t∧t≤430:=by unfold onL onH at ht;omega
 refine Wp.eq ?_
 unfold zen
 refine zaq (zi0 H) (zay rfl ?_)
 have e1:zcc x=true:=by
  unfold zcc zau
  simp only [Bool.and_eq_true,decide_eq_true_eq]
  omega
 have e2:zbR ⟨t,1025⟩=true:=by
  unfold zbR
  simp only [Bool.or_eq_true,Bool.and_eq_true,decide_eq_true_eq]
  omega
 rw [e1,e2]
 refine zay rfl (zay rfl (zay rfl (zaq (zlO H hl _ rfl) (zay rfl ?_))))
 have e3:zdo (lv s m f) x ⟨t,1025⟩=some true:=by
  refine Wp.eq ?_
  unfold zdo
  refine zay (by rw [hx3];simp [lv]) (ziO ?_)
  have go:∀ y:Int,fogS f g≤y∧y≤fogM f g→Wp (must (((decide (0≤t))=true→(inI (x.Set+(lv s m f).On.Lo)))) <| must (((decide (0≤t))=true→(inI ((x.Set+(lv s m f).On.Lo) - y)))) <| must (((decide (0≤t))=true→(inI (x.Set+(lv s m f).On.Hi)))) <| must (((decide (0≤t))=true→(inI ((x.Set+(lv s m f).On.Hi) - y)))) <| must ((((decide (0≤t)) && (zau t ((x.Set+(lv s m f).On.Lo) - y) ((x.Set+(lv s m f).On.Hi) - y)))=true→(inI (x.Rise - (lv s m f).Off.Hi)))) <| must ((((decide (0≤t)) && (zau t ((x.Set+(lv s m f).On.Lo) - y) ((x.Set+(lv s m f).On.Hi) - y)))=true→(inI (x.Rise - (lv s m f).Off.Lo)))) <| some (((decide (0≤t)) && (zau t ((x.Set+(lv s m f).On.Lo) - y) ((x.Set+(lv s m f).On.Hi) - y))) && (zau 1025 (x.Rise - (lv s m f).Off.Hi) (x.Rise - (lv s m f).Off.Lo)))) (· = true):=fun y hy=>by
   unfold onL onH at ht
   refine zae (fun _=>by simp only [lv];unfold inI;omega) (zae (fun _=>by simp only [lv];unfold inI;omega) (zae (fun _=>by simp only [lv];unfold inI;omega) (zae (fun _=>by simp only [lv];unfold inI;omega) (zae (fun _=>by simp only [lv];unfold inI;omega) (zae (fun _=>by simp only [lv];unfold inI;omega) (zap ?_))))))
   rw [decide_eq_true (show 0≤t by omega),binT (show x.Set+(lv s m f).On.Lo - y≤t by show x.Set+s - y≤t;omega) (show t≤x.Set+(lv s m f).On.Hi - y by show t≤x.Set+(s+20+m) - y;omega),binT (show x.Rise - (lv s m f).Off.Hi≤1025 by show x.Rise - 60≤1025;omega) (show 1025≤x.Rise - (lv s m f).Off.Lo by show 1025≤x.Rise - 5;omega)]
   rfl
  cases hF:x.Fog with
  | true=>
   refine go f ?_
   have:g≠0:=fun e=>by have:=hx4.2 e;rw [hF] at this;cases this
   unfold fogS fogM
   split <;> split <;> omega
  | false=>
   refine go 0 ?_
   have:g≠1:=fun e=>by have:=hx4.1 e;rw [hF] at this;cases this
   unfold fogS fogM
   split <;> split <;> omega
 exact zaq e3 (zap rfl)
end
end Go.Sp
end
/- Plain laws: charts. No program in sight. -/
section
set_option linter.all false
namespace Go.Sp
open Go.Av
theorem zaM {S R:Type} (s:S) (k:S→Option R):zar (some s) k=k s:=rfl
theorem zaz {R:Type} {c:Prop} [Decidable c] (h:c) (x:Option R):must c x=x:=if_pos h
theorem zl3 {T:Type} [Inhabited T] {l:List T} {i:Nat} (h:i<l.length):l.drop i=l.getD i default::l.drop (i+1):=by
 rw [List.getD_eq_getElem?_getD,List.getElem?_eq_getElem h]
 simp
theorem zd7 {n b:Nat} (hn:n≤1000) (hb:b≤1000):room n b:=by
 unfold room
 have:n * b≤1000 * 1000:=Nat.mul_le_mul hn hb
 omega
theorem zor {T:Type} [Inhabited T] (l:List T) (g:T→Bool):∀ n i,i+n=l.length →
 ∃ z:Int,zah (fun i1 (_:Unit) k1=>zar (some (g (l.getD i1 default))) fun y3=>(bif y3 then some (i1:Int) else k1 ())) (fun (_:Unit)=>some (-1)) n i ()=some z∧(decide (0≤z))=(l.drop i).any g:=by
 intro n
 induction n with
 | zero=>
  intro i hi
  refine ⟨-1,rfl,?_⟩
  rw [List.drop_eq_nil_of_le (by omega)];rfl
 | succ n ih=>
  intro i hi
  rw [zl3 (by omega),List.any_cons]
  show ∃ z:Int,(bif g (l.getD i default) then some (i:Int) else _)=some z∧_
  cases hg:g (l.getD i default) with
  | true=>exact ⟨i,rfl,by simp⟩
  | false=>
   obtain ⟨z,h1,h2⟩:=ih (i+1) (by omega)
   exact ⟨z,h1,by rw [h2];rfl⟩
theorem zlg (l:List Way) (g:Way→Bool):zbw l (fun x=>some (g x))=some (l.any g):=by
 obtain ⟨z,h1,h2⟩:=zor l g l.length 0 (by omega)
 show zar (zbt l _) _=_
 unfold zbt
 rw [h1,zaM,h2,List.drop_zero]
def valid (c:Chart):Bool:=(decide (1≤c.Places) && decide (c.Places≤12)) && decide (c.Ways.length≤40) && c.Ways.all (za2 c)
theorem zdi {c:Chart}:valid c=true↔(1≤c.Places∧c.Places≤12)∧c.Ways.length≤40∧∀ w∈c.Ways,za2 c w=true:=by
 simp [valid,and_assoc]
theorem znW {T:Type} (l:List T) (g:T→Bool):l.any (fun x=>!g x) = !l.all g:=by
 induction l with
 | nil=>rfl
 | cons x l ih=>rw [List.any_cons,List.all_cons,ih];cases g x <;> rfl
theorem zdZ (c:Chart):zcI c=some (bif valid c then 0 else 31):=by
 unfold zcI valid zaB
 have e:(fun x0=>some (zcu x0 c))=(fun x0=>some ((fun x=>!za2 c x) x0)):=rfl
 rw [e,zlg,znW]
 have e2:decide (40<((c.Ways.length:Nat):Int)) = !decide (c.Ways.length≤40):=by
  rw [Bool.eq_iff_iff];simp;omega
 rw [e2]
 cases (decide (1≤c.Places) && decide (c.Places≤12)) <;> cases decide (c.Ways.length≤40) <;> cases c.Ways.all (za2 c) <;> rfl
def less (c:Chart) (i:Nat):Chart:=⟨c.Places,c.Ways.take i++c.Ways.drop (i+1)⟩
end Go.Sp
end
/- Plain laws: when a way ends; the least minutes. No program in sight. -/
section
set_option linter.all false
namespace Go.Sp
open Go.Av
theorem zco {c:Chart} {w:Way}:za2 c w=true↔(0≤w.From∧w.From≤11)∧(0≤w.To∧w.To≤11)∧w.From≠w.To∧(1≤w.Takes.Lo∧w.Takes.Lo≤w.Takes.Hi∧w.Takes.Hi≤600) ∧
 (0≤w.Open.Lo∧w.Open.Lo≤w.Open.Hi∧w.Open.Hi≤1439)∧(0≤w.Every∧w.Every≤600)∧w.From<c.Places∧w.To<c.Places:=by
 unfold za2 zcH zby zaB
 simp only [Bool.and_eq_true,Bool.not_eq_true',decide_eq_true_eq,decide_eq_false_iff_not]
 omega
structure FitR (w:Way):Prop where
 lo:0≤w.Open.Lo
 hi:w.Open.Lo≤w.Open.Hi
 top:w.Open.Hi≤1439
 every:0≤w.Every∧w.Every≤600
theorem zhN {c:Chart} {w:Way} (h:za2 c w=true):FitR w:=by
 have:=zco.1 h
 exact ⟨this.2.2.2.2.1.1,this.2.2.2.2.1.2.1,this.2.2.2.2.1.2.2,this.2.2.2.2.2.1⟩
def bgn (w:Way) (a:Int):Int:=if 0<w.Every then w.Open.Lo+((max a w.Open.Lo - w.Open.Lo+w.Every - 1) / w.Every) * w.Every else max a w.Open.Lo
theorem znP {w:Way} (hf:FitR w) (a:Int):a≤bgn w a∧w.Open.Lo≤bgn w a∧bgn w a≤max a w.Open.Lo+599:=by
 unfold bgn
 have h1:=hf.every
 split
 · rename_i hE
   have h2:=Int.lt_ediv_add_one_mul_self (max a w.Open.Lo - w.Open.Lo+w.Every - 1) hE
   have h3:=Int.ediv_mul_le (max a w.Open.Lo - w.Open.Lo+w.Every - 1) (b:=w.Every) (by omega)
   rw [Int.add_mul,Int.one_mul] at h2
   generalize (max a w.Open.Lo - w.Open.Lo+w.Every - 1) / w.Every * w.Every=q at *
   omega
 · omega
theorem zoM {w:Way} (hf:FitR w) {a b:Int} (h:a≤b):bgn w a≤bgn w b:=by
 unfold bgn
 split
 · rename_i hE
   have:(max a w.Open.Lo - w.Open.Lo+w.Every - 1) / w.Every≤(max b w.Open.Lo - w.Open.Lo+w.Every - 1) / w.Every:=Int.ediv_le_ediv hE (by omega)
   have:=Int.mul_le_mul_of_nonneg_right this (by omega:(0:Int)≤w.Every)
   omega
 · omega
theorem zoL {w:Way} (hf:FitR w) (hE:0<w.Every) (a:Int):Int.tdiv (max a w.Open.Lo - w.Open.Lo+w.Every - 1) w.Every=(max a w.Open.Lo - w.Open.Lo+w.Every - 1) / w.Every:=
 Int.tdiv_eq_ediv_of_nonneg (by have:=hf.lo;omega)
theorem zlq {R:Type} {w:Way} (hf:FitR w) {a:Int} (h0:0≤a) (h1:a≤100000) (k:Int→Option R) :
 (zet (fun (k1:Int→_)=>(bif (decide (0<w.Every)) then must (inI ((max a w.Open.Lo) - w.Open.Lo)) <| must (inI (((max a w.Open.Lo) - w.Open.Lo)+w.Every)) <| must (inI ((((max a w.Open.Lo) - w.Open.Lo)+w.Every) - 1)) <| must ((w.Every:Int)≠0∧inI (Int.tdiv ((((max a w.Open.Lo) - w.Open.Lo)+w.Every) - 1) w.Every)) <| must (inI ((Int.tdiv ((((max a w.Open.Lo) - w.Open.Lo)+w.Every) - 1) w.Every) * w.Every)) <| must (inI (w.Open.Lo+((Int.tdiv ((((max a w.Open.Lo) - w.Open.Lo)+w.Every) - 1) w.Every) * w.Every))) <| k1 (w.Open.Lo+((Int.tdiv ((((max a w.Open.Lo) - w.Open.Lo)+w.Every) - 1) w.Every) * w.Every)) else k1 (max a w.Open.Lo))) k)=k (bgn w a):=by
 have g:=znP hf a
 have g1:=hf.lo;have g2:=hf.hi;have g3:=hf.top;have g4:=hf.every
 unfold zet
 dsimp only
 by_cases hE:0<w.Every
 · rw [decide_eq_true hE,cond_true,zoL hf hE]
   unfold bgn at g ⊢
   rw [if_pos hE] at g ⊢
   have h3:=Int.ediv_mul_le (max a w.Open.Lo - w.Open.Lo+w.Every - 1) (b:=w.Every) (by omega)
   have h4:(max a w.Open.Lo - w.Open.Lo+w.Every - 1) / w.Every≤max a w.Open.Lo - w.Open.Lo+w.Every - 1:=Int.ediv_le_self _ (by omega)
   have h5:0≤(max a w.Open.Lo - w.Open.Lo+w.Every - 1) / w.Every:=Int.ediv_nonneg (by omega) (by omega)
   rw [zaz (by unfold inI;omega),zaz (by unfold inI;omega),zaz (by unfold inI;omega),zaz (by unfold inI;omega),zaz (by unfold inI;omega),zaz (by unfold inI;omega)]
 · rw [decide_eq_false hE,cond_false]
   unfold bgn
   rw [if_neg hE]
theorem zop {w:Way} (hf:FitR w) {a:Int} (h0:0≤a) (h1:a≤100000):zc7 w a=some (bgn w a,decide (bgn w a≤w.Open.Hi)):=by
 unfold zc7
 rw [zlq hf h0 h1]
def fin (w:Way) (t a:Int):Option Int:=if bgn w a≤w.Open.Hi∧bgn w a+t≤1439 then some (bgn w a+t) else none
theorem znq {w:Way} (hf:FitR w) {t a b:Int} (ht:1≤t) (h:fin w t a=some b):a<b∧0<b∧b≤1439:=by
 unfold fin at h
 have g:=znP hf a
 have:=hf.lo
 split at h
 · cases h;omega
 · cases h
theorem zov {w:Way} (hf:FitR w) {t a b y:Int} (h:a≤b) (hb:fin w t b=some y):∃ x,fin w t a=some x∧x≤y:=by
 unfold fin at hb ⊢
 have g:=zoM hf h
 split at hb
 · cases hb
   rename_i hc
   rw [if_pos (by omega)]
   exact ⟨_,rfl,by omega⟩
 · cases hb
def way (c:Chart) (i:Nat):Way:=c.Ways.getD i default
structure Net (c:Chart) (T:Nat→Int):Prop where
 val:valid c=true
 len:∀ i,i<c.Ways.length→1≤T i∧T i≤600
theorem zpd {c:Chart} {i:Nat} (hi:i<c.Ways.length):way c i∈c.Ways:=by
 unfold way
 rw [List.getD_eq_getElem?_getD,List.getElem?_eq_getElem hi]
 exact List.getElem_mem hi
theorem zca {c:Chart} (hv:valid c=true) {i:Nat} (hi:i<c.Ways.length):za2 c (way c i)=true:=(zdi.1 hv).2.2 _ (zpd hi)
inductive Arr (c:Chart) (T:Nat→Int) (s a0:Int):Int→Int→Prop
 | start:Arr c T s a0 s a0
 | step (p a:Int) (i:Nat) (b:Int) (h:Arr c T s a0 p a) (hi:i<c.Ways.length) (hf:(way c i).From=p) (hb:fin (way c i) (T i) a=some b):Arr c T s a0 (way c i).To b
theorem Arr.bounds {c:Chart} {T:Nat→Int} (N:Net c T) {s a0 p a:Int} (hs:0≤s∧s<c.Places) (h0:0≤a0∧a0≤1439) (h:Arr c T s a0 p a):(0≤p∧p<c.Places)∧a0≤a∧a≤1439:=by
 induction h with
 | start=>omega
 | step p a i b h hi hf hb ih=>
  have j:=zco.1 (zca N.val hi)
  have g:=znq (zhN (zca N.val hi)) (N.len i hi).1 hb
  omega
def Lst (c:Chart) (T:Nat→Int) (s a0 p:Int):Option Int→Prop
 | some a=>Arr c T s a0 p a∧∀ b,Arr c T s a0 p b→a≤b
 | none=>∀ b,¬ Arr c T s a0 p b
theorem cert {c:Chart} {T:Nat→Int} (N:Net c T) {s a0:Int} (d:Int→Option Int) (sound:∀ p a,d p=some a→Arr c T s a0 p a) (st:∃ a,d s=some a∧a≤a0)
 (closed:∀ i,i<c.Ways.length→∀ a b,d (way c i).From=some a→fin (way c i) (T i) a=some b→∃ x,d (way c i).To=some x∧x≤b) (p:Int):Lst c T s a0 p (d p):=by
 have key:∀ p b,Arr c T s a0 p b→∃ a,d p=some a∧a≤b:=by
  intro p b h
  induction h with
  | start=>exact st
  | step p a i b h hi hf hb ih=>
   obtain ⟨a',h1,h2⟩:=ih
   obtain ⟨b',k1,k2⟩:=zov (zhN (zca N.val hi)) h2 hb
   rw [← hf] at h1
   obtain ⟨x,h3,h4⟩:=closed i hi a' b' h1 k1
   exact ⟨x,h3,by omega⟩
 cases hd:d p with
 | none=>
  intro b hb
  obtain ⟨a,h1,_⟩:=key p b hb
  rw [hd] at h1;cases h1
 | some a=>
  refine ⟨sound p a hd,fun b hb=>?_⟩
  obtain ⟨a',h1,h2⟩:=key p b hb
  rw [hd] at h1;cases h1;exact h2
end Go.Sp
end
/- Plain laws: the least minutes, as the reference finds them. No program in sight. -/
section
set_option linter.all false
namespace Go.Sp
open Go.Av
set_option maxRecDepth 100000
theorem zkW {S R:Type} (body:S→(S→Option R)→Option R) (n:Nat) (s:S):loopGo body (n+1) s=body s (loopGo body n):=rfl
def mrk (n:Int):Option Int:=if n<0 then none else some n
theorem zpt {n:Int} (h:n<0):mrk n=none:=if_pos h
theorem zm6 {n:Int} (h:0≤n):mrk n=some n:=if_neg (by omega)
structure Mins (c:Chart) (T:Nat→Int) (s a0:Int) (L:List Int):Prop where
 len:L.length=c.Places.toNat
 lst:∀ p:Nat,p<c.Places.toNat → -1≤L.getD p default∧Lst c T s a0 p (mrk (L.getD p default))
theorem zeU {T:Type} [Inhabited T] (l:List T) (i j:Nat) (x:T) (hi:i<l.length):(l.set i x).getD j default=if j=i then x else l.getD j default:=by
 rw [List.getD_eq_getElem?_getD,List.getElem?_set,List.getD_eq_getElem?_getD]
 by_cases h:i=j
 · subst h;simp [hi]
 · rw [if_neg h,if_neg (fun e=>h e.symm)]
def Tl (l:List Int) (i:Nat):Int:=l.getD i default
structure Good (c:Chart) (T:List Int) (s a0:Int) (L:List Int):Prop where
 len:L.length=c.Places.toNat
 ok:∀ p:Nat,p<c.Places.toNat → -1≤L.getD p default∧(0≤L.getD p default→Arr c (Tl T) s a0 p (L.getD p default))
 st:0≤L.getD s.toNat default∧L.getD s.toNat default≤a0
def zh9 (c:Chart) (T:List Int) (L:List Int) (i:Nat):Prop:=
 ∀ a b,mrk (L.getD (way c i).From.toNat default)=some a→fin (way c i) (Tl T i) a=some b→∃ x,mrk (L.getD (way c i).To.toNat default)=some x∧x≤b
end Go.Sp
end
/- Plain laws: the least minutes, as the program finds them. No program in sight. -/
section
set_option linter.all false
namespace Go.Sp
open Go.Av
set_option maxRecDepth 100000
theorem zbA {S R:Type} (body:Nat→S→(S→R)→R) (ex:S→R) (n i:Nat) (s:S):zah body ex (n+1) i s=body i s (zah body ex n (i+1)):=rfl
theorem zkX {A S R:Type} (body:A→S→(S→R)→R) (ex:S→R) (x:A) (l:List A) (s:S):zdk body ex (x::l) s=body x s (zdk body ex l):=rfl
abbrev Rm:=Mp round_reached
def item (c:Chart) (T:Nat→Int) (p a:Int) (i:Nat):Option (Int×Int):=if (way c i).From=p then (fin (way c i) (T i) a).map fun b=>((i:Int),b) else none
theorem zpC {c:Chart} {T:Nat→Int} (N:Net c T) {p a:Int} (ha:0≤a∧a≤1439) (tk:Int→Option Int) (hk:∀ i:Nat,i<c.Ways.length→tk i=some (T i)):∀ n i:Nat,i+n=c.Ways.length →
 zah (fun i1 (s1:Unit) k1=>(zet (fun (k3:Unit→_)=>(bif (!decide ((c.Ways.getD i1 default).From=p)) then k3 () else zar (zc7 (c.Ways.getD i1 default) a) fun y5=>zar ((bif y5.2 then tk (i1:Int) else some default)) fun y7=>must ((y5.2=true→(inI (y5.1+y7)))) <| zar ((bif (y5.2 && (decide ((y5.1+y7)≤1439))) then tk (i1:Int) else some default)) fun y10=>must (((y5.2 && (decide ((y5.1+y7)≤1439)))=true→(inI (y5.1+y10)))) <| zgR (y5.2 && (decide ((y5.1+y7)≤1439))) ((i1:Int),(y5.1+y10)) <| k3 ())) (fun (s3:Unit)=>k1 ()))) (fun (s1:Unit)=>some []) n i ()=some ((List.range' i n).filterMap (item c T p a)):=by
 intro n
 induction n with
 | zero=>intro i _;rfl
 | succ n ih=>
  intro i hi
  have hlt:i<c.Ways.length:=by omega
  have hw:=zhN (zca N.val hlt)
  have g:=znP hw a
  have g1:=hw.lo;have g2:=hw.hi;have g3:=hw.top
  have hTi:=N.len i hlt
  have IH:=ih (i+1) (by omega)
  rw [List.range'_succ,List.filterMap_cons]
  rw [zbA]
  generalize zah _ _ n (i+1) ()=Z at IH ⊢
  have ew:c.Ways.getD i default=way c i:=rfl
  rw [ew]
  unfold zet
  dsimp only
  unfold item
  by_cases hp:(way c i).From=p
  · rw [if_pos hp,decide_eq_true hp,Bool.not_true,cond_false,zop hw (by omega) (by omega),zaM]
    unfold fin
    by_cases h1:bgn (way c i) a≤(way c i).Open.Hi
    · rw [decide_eq_true h1]
      rw [cond_true,hk i hlt,zaM,zaz (fun _=>by unfold inI;omega)]
      by_cases h2:bgn (way c i) a+T i≤1439
      · rw [decide_eq_true h2,Bool.true_and,cond_true,zaM,zaz (fun _=>by unfold inI;omega),if_pos ⟨h1,h2⟩,IH]
        rfl
      · rw [decide_eq_false h2,Bool.true_and,cond_false,zaM,zaz (fun x=>by cases x),if_neg (fun x=>h2 x.2),IH]
        rfl
    · rw [decide_eq_false h1]
      rw [cond_false,zaM,zaz (fun x=>by cases x),Bool.false_and,cond_false,zaM,zaz (fun x=>by cases x),if_neg (fun x=>h1 x.1),IH]
      rfl
  · rw [if_neg hp,decide_eq_false hp,Bool.not_false,cond_true,IH]
    rfl
theorem zpD {c:Chart} {T:Nat→Int} (N:Net c T) {p a:Int} (ha:0≤a∧a≤1439) (tk:Int→Option Int) (hk:∀ i:Nat,i<c.Ways.length→tk i=some (T i)) :
 zcM c p a tk=some ((List.range' 0 c.Ways.length).filterMap (item c T p a)):=zpC N ha tk hk c.Ways.length 0 (by omega)
theorem zhD {c:Chart} {T:Nat→Int} {p a:Int} {x:Int×Int}:x∈(List.range' 0 c.Ways.length).filterMap (item c T p a)↔∃ i:Nat,i<c.Ways.length∧(way c i).From=p∧fin (way c i) (T i) a=some x.2∧x.1=i:=by
 rw [List.mem_filterMap]
 constructor
 · rintro ⟨i,hi,h⟩
   unfold item at h
   split at h
   · rename_i hp
     cases hf:fin (way c i) (T i) a with
     | none=>rw [hf] at h;cases h
     | some b=>
      rw [hf] at h
      cases h
      exact ⟨i,by simpa using hi,hp,hf,rfl⟩
   · cases h
 · rintro ⟨i,hi,hp,hf,hx⟩
   refine ⟨i,by simpa using hi,?_⟩
   unfold item
   rw [if_pos hp,hf]
   cases x
   simp only at hx
   subst hx
   rfl
def zhl (c:Chart) (out:Rm) (m:Rm) (x:Int×Int):Rm:=
 let to:=(way c x.1.toNat).To
 if (out.get to).isSome=false∧((m.get to).isSome=false∨x.2<((m.get to).getD default).at_) then m.set to ⟨x.2,x.1⟩ else m
theorem zpx (c:Chart) (out:Rm) {R:Type} (k:Rm→Option R):∀ (l:List (Int×Int)) (m:Rm),(∀ x∈l,0≤x.1∧x.1<c.Ways.length) →
 zdk (fun (x6:Int×Int) (s7:(Mp round_reached)) k7=>must (0≤(x6.1:Int)∧(x6.1:Int)<((c.Ways.length:Nat):Int)) <| (bif ((!((out.get ((c.Ways.getD (x6.1).toNat default).To)).isSome)) && ((!((s7.get ((c.Ways.getD (x6.1).toNat default).To)).isSome)) || (decide (x6.2<((s7.get ((c.Ways.getD (x6.1).toNat default).To)).getD default).at_)))) then k7 (s7.set ((c.Ways.getD (x6.1).toNat default).To) (⟨x6.2,x6.1⟩:round_reached)) else k7 s7)) k l m=k (l.foldl (zhl c out) m):=by
 intro l
 induction l with
 | nil=>intro m _;rfl
 | cons x l ih=>
  intro m h
  have hx:=h x (List.mem_cons_self ..)
  rw [List.foldl_cons,← ih (zhl c out m x) (fun y hy=>h y (List.mem_cons_of_mem _ hy)),zkX]
  have ew:c.Ways.getD x.1.toNat default=way c x.1.toNat:=rfl
  rw [ew,zaz hx]
  unfold zhl
  dsimp only
  cases (out.get (way c x.1.toNat).To).isSome <;> cases (m.get (way c x.1.toNat).To).isSome <;> by_cases hd:x.2<((m.get (way c x.1.toNat).To).getD default).at_ <;> simp [hd]
structure Dij (c:Chart) (T:Nat→Int) (s a0:Int) (out op:Rm):Prop where
 rng:∀ k x,(out.get k=some x∨op.get k=some x)→0≤k∧k<c.Places
 snd:∀ k x,(out.get k=some x∨op.get k=some x)→Arr c T s a0 k x.at_∧((x.way = -1∧k=s∧x.at_=a0)∨∃ i:Nat,x.way=i∧i<c.Ways.length∧(way c i).To=k∧∃ y,out.get (way c i).From=some y∧fin (way c i) (T i) y.at_=some x.at_)
 dis:∀ k x,out.get k=some x→op.get k=none
 ord:∀ k x j y,out.get k=some x→op.get j=some y→x.at_≤y.at_
 cls:∀ k x,out.get k=some x→∀ i,i<c.Ways.length→(way c i).From=k→∀ b,fin (way c i) (T i) x.at_=some b→(∃ y,out.get (way c i).To=some y∧y.at_≤b)∨∃ y,op.get (way c i).To=some y∧y.at_≤b
 st:∃ x,(out.get s=some x∨op.get s=some x)∧x.at_≤a0
theorem zbO (m:Rm) (k:Int) (x:round_reached) (j:Int):(m.set k x).get j=if j=k then some x else m.get j:=rfl
theorem zgx (m:Rm) (k:Int) (j:Int):(m.del k).get j=if j=k then none else m.get j:=rfl
structure Run (c:Chart) (T:Nat→Int) (s a0:Int) (out:Rm) (top:Int) (m0 m:Rm):Prop where
 rng:∀ k x,m.get k=some x→0≤k∧k<c.Places
 snd:∀ k x,m.get k=some x→Arr c T s a0 k x.at_∧((x.way = -1∧k=s∧x.at_=a0)∨∃ i:Nat,x.way=i∧i<c.Ways.length∧(way c i).To=k∧∃ y,out.get (way c i).From=some y∧fin (way c i) (T i) y.at_=some x.at_)
 dis:∀ k x,out.get k=some x→m.get k=none
 ord:∀ j y,m.get j=some y→top≤y.at_
 less:∀ j y,m0.get j=some y→∃ z,m.get j=some z∧z.at_≤y.at_
theorem zpl {c:Chart} {T:Nat→Int} (N:Net c T) {s a0:Int} {out m0 m:Rm} {p:Int} {x:round_reached} (hx:out.get p=some x) (hA:Arr c T s a0 p x.at_) (H:Run c T s a0 out x.at_ m0 m) (i:Nat) (hi:i<c.Ways.length) (hp:(way c i).From=p) (b:Int) (hf:fin (way c i) (T i) x.at_=some b) :
 Run c T s a0 out x.at_ m0 (zhl c out m ((i:Int),b))∧(((out.get (way c i).To).isSome=true)∨∃ y,(zhl c out m ((i:Int),b)).get (way c i).To=some y∧y.at_≤b)∧∀ j y,m.get j=some y→∃ z,(zhl c out m ((i:Int),b)).get j=some z∧z.at_≤y.at_:=by
 have J:=zco.1 (zca N.val hi)
 have g:=znq (zhN (zca N.val hi)) (N.len i hi).1 hf
 unfold zhl
 simp only [Int.toNat_natCast]
 split
 · rename_i hc
   have hle:∀ j y,m.get j=some y→∃ z,(m.set (way c i).To ⟨b,(i:Int)⟩).get j=some z∧z.at_≤y.at_:=by
    intro j y hj
    rw [zbO]
    split
    · rename_i e;subst e
      refine ⟨_,rfl,?_⟩
      rcases hc.2 with h|h
      · rw [hj] at h;cases h
      · rw [hj] at h;simp at h;simp;omega
    · exact ⟨y,hj,Int.le_refl _⟩
   refine ⟨⟨fun k z hz=>?_,fun k z hz=>?_,fun k z hz=>?_,fun j y hj=>?_,fun j y hj=>?_⟩,.inr ⟨_,by rw [zbO,if_pos rfl],Int.le_refl _⟩,hle⟩
   · rw [zbO] at hz
     split at hz
     · rename_i e;subst e;omega
     · exact H.rng k z hz
   · rw [zbO] at hz
     split at hz
     · rename_i e;subst e
       cases hz
       exact ⟨.step p _ i b hA hi hp hf,.inr ⟨i,rfl,hi,rfl,x,by rw [hp];exact hx,hf⟩⟩
     · exact H.snd k z hz
   · rw [zbO]
     split
     · rename_i e;subst e
       rw [hz] at hc;simp at hc
     · exact H.dis k z hz
   · rw [zbO] at hj
     split at hj
     · cases hj;simp only;omega
     · exact H.ord j y hj
   · obtain ⟨z,h1,h2⟩:=H.less j y hj
     obtain ⟨z',h3,h4⟩:=hle j z h1
     exact ⟨z',h3,by omega⟩
 · rename_i hc
   refine ⟨H,?_,fun j y hj=>⟨y,hj,Int.le_refl _⟩⟩
   cases ho:(out.get (way c i).To).isSome with
   | true=>exact .inl rfl
   | false=>
    right
    cases hm:m.get (way c i).To with
    | none=>exact absurd ⟨ho,.inl (by rw [hm];rfl)⟩ hc
    | some y=>
     refine ⟨y,rfl,?_⟩
     have:¬ b<y.at_:=fun h=>hc ⟨ho,.inr (by rw [hm];exact h)⟩
     omega
theorem zpm {c:Chart} {T:Nat→Int} (N:Net c T) {s a0:Int} {out m0:Rm} {p:Int} {x:round_reached} (hx:out.get p=some x) (hA:Arr c T s a0 p x.at_) :
 ∀ (l:List (Int×Int)) (m:Rm),(∀ y∈l,∃ i:Nat,i<c.Ways.length∧(way c i).From=p∧fin (way c i) (T i) x.at_=some y.2∧y.1=i)→Run c T s a0 out x.at_ m0 m →
 Run c T s a0 out x.at_ m0 (l.foldl (zhl c out) m)∧(∀ y∈l,((out.get (way c y.1.toNat).To).isSome=true)∨∃ z,(l.foldl (zhl c out) m).get (way c y.1.toNat).To=some z∧z.at_≤y.2)∧∀ j y,m.get j=some y→∃ z,(l.foldl (zhl c out) m).get j=some z∧z.at_≤y.at_:=by
 intro l
 induction l with
 | nil=>intro m _ H;exact ⟨H,by simp,fun j y hj=>⟨y,hj,Int.le_refl _⟩⟩
 | cons y l ih=>
  intro m hl H
  obtain ⟨i,hi,hp,hf,hy⟩:=hl y (List.mem_cons_self ..)
  obtain ⟨H1,h1,h2⟩:=zpl N hx hA H i hi hp y.2 hf
  have ey:y=((i:Int),y.2):=by rw [← hy]
  rw [List.foldl_cons]
  rw [← ey] at H1 h1 h2
  obtain ⟨H2,k1,k2⟩:=ih (zhl c out m y) (fun z hz=>hl z (List.mem_cons_of_mem _ hz)) H1
  refine ⟨H2,fun z hz=>?_,fun j z hj=>?_⟩
  · rcases List.mem_cons.1 hz with rfl|hz
    · rw [hy,Int.toNat_natCast]
      rcases h1 with h1|⟨w,h1,h3⟩
      · exact .inl h1
      · obtain ⟨w',h4,h5⟩:=k2 _ w h1
        exact .inr ⟨w',h4,by omega⟩
    · exact k1 z hz
  · obtain ⟨w,h3,h4⟩:=h2 j z hj
    obtain ⟨w',h5,h6⟩:=k2 j w h3
    exact ⟨w',h5,by omega⟩
def Nxt (op:Rm) (i:Nat) (s:Int):Prop:=(s = -1∧∀ j:Nat,j<i→op.get j=none)∨((0≤s∧s<i)∧∃ x,op.get s=some x∧∀ (j:Nat) y,j<i→op.get j=some y→x.at_≤y.at_)
theorem nxt_go (op:Rm) {R:Type} (k:Int→Option R):∀ (n i:Nat) (s:Int),Nxt op i s→∃ s',Nxt op (i+n) s' ∧
 zah (fun i2 (s2:Int) k2=>(bif (((op.get (i2:Int)).isSome) && ((decide (s2<0)) || (decide (((op.get (i2:Int)).getD default).at_<((op.get s2).getD default).at_)))) then k2 (i2:Int) else k2 s2)) k n i s=k s':=by
 intro n
 induction n with
 | zero=>intro i s h;exact ⟨s,h,rfl⟩
 | succ n ih=>
  intro i s h
  have key:∃ s',Nxt op (i+1) s'∧∀ {R:Type} (k2:Int→Option R),(bif (((op.get (i:Int)).isSome) && ((decide (s<0)) || (decide (((op.get (i:Int)).getD default).at_<((op.get s).getD default).at_)))) then k2 (i:Int) else k2 s)=k2 s':=by
   cases ho:op.get (i:Int) with
   | none=>
    refine ⟨s,?_,fun k2=>rfl⟩
    rcases h with ⟨h1,h2⟩|⟨h1,x,h2,h3⟩
    · refine .inl ⟨h1,fun j hj=>?_⟩
      by_cases e:j=i
      · subst e;exact ho
      · exact h2 j (by omega)
    · refine .inr ⟨by omega,x,h2,fun j y hj hy=>?_⟩
      by_cases e:j=i
      · subst e;rw [ho] at hy;cases hy
      · exact h3 j y (by omega) hy
   | some w=>
    simp only [Option.isSome_some,Bool.true_and,Option.getD_some]
    rcases h with ⟨h1,h2⟩|⟨h1,x,h2,h3⟩
    · subst h1
      refine ⟨i,.inr ⟨by omega,w,ho,fun j y hj hy=>?_⟩,fun k2=>rfl⟩
      by_cases e:j=i
      · subst e;rw [ho] at hy;cases hy;exact Int.le_refl _
      · rw [h2 j (by omega)] at hy;cases hy
    · rw [h2,decide_eq_false (by omega:¬ s<0),Bool.false_or,Option.getD_some]
      by_cases hl:w.at_<x.at_
      · rw [decide_eq_true hl]
        refine ⟨i,.inr ⟨by omega,w,ho,fun j y hj hy=>?_⟩,fun k2=>rfl⟩
        by_cases e:j=i
        · subst e;rw [ho] at hy;cases hy;exact Int.le_refl _
        · have:=h3 j y (by omega) hy;omega
      · rw [decide_eq_false hl]
        refine ⟨s,.inr ⟨by omega,x,h2,fun j y hj hy=>?_⟩,fun k2=>rfl⟩
        by_cases e:j=i
        · subst e;rw [ho] at hy;cases hy;omega
        · exact h3 j y (by omega) hy
  obtain ⟨s1,h1,h2⟩:=key
  obtain ⟨s2,h3,h4⟩:=ih (i+1) s1 h1
  refine ⟨s2,by rw [Nat.add_assoc,Nat.add_comm 1 n] at h3;exact h3,?_⟩
  rw [zbA]
  exact (h2 _).trans h4
def todo (c:Chart) (out:Rm):Nat:=((List.range c.Places.toNat).filter fun (p:Nat)=>(out.get (p:Int)).isNone).length
theorem zn7 {c:Chart} {out:Rm} {k:Int} {x:round_reached} (hk:0≤k∧k<c.Places) (hn:out.get k=none):todo c (out.set k x)<todo c out:=by
 unfold todo
 have hsub:∀ (l:List Nat),((l.filter fun (p:Nat)=>((out.set k x).get (p:Int)).isNone).length≤(l.filter fun (p:Nat)=>(out.get (p:Int)).isNone).length)∧(k.toNat∈l→(l.filter fun (p:Nat)=>((out.set k x).get (p:Int)).isNone).length<(l.filter fun (p:Nat)=>(out.get (p:Int)).isNone).length):=by
  intro l
  induction l with
  | nil=>simp
  | cons q l ih=>
   obtain ⟨h1,h2⟩:=ih
   by_cases e:(q:Int)=k
   · have a1:((out.set k x).get (q:Int)).isNone=false:=by rw [zbO,if_pos e];rfl
     have a2:(out.get (q:Int)).isNone=true:=by rw [e,hn];rfl
     simp only [List.filter_cons,a1,a2,if_true]
     simp
     omega
   · have a1:((out.set k x).get (q:Int))=out.get (q:Int):=by rw [zbO,if_neg e]
     have a3:k.toNat≠q:=by omega
     simp only [List.filter_cons,a1]
     split
     · simp only [List.length_cons,List.mem_cons]
       exact ⟨by omega,fun h=>by rcases h with h|h;exact absurd h a3;have:=h2 h;omega⟩
     · simp only [List.mem_cons]
       exact ⟨h1,fun h=>by rcases h with h|h;exact absurd h a3;exact h2 h⟩
 exact (hsub _).2 (by simp;omega)
def zlf (p0:Chart) (p3:Int→Option Int):(Rm×Rm)→((Rm×Rm)→Option Rm)→Option Rm:=(fun (s1:(Mp round_reached)×(Mp round_reached)) k1=>must ((p0.Places).toNat≤9223372036854775807) <| (zah (fun i2 (s2:Int) k2=>(bif (((s1.2.get (i2:Int)).isSome) && ((decide (s2<0)) || (decide (((s1.2.get (i2:Int)).getD default).at_<((s1.2.get s2).getD default).at_)))) then k2 (i2:Int) else k2 s2)) (fun (s2:Int)=>(bif (decide (s2<0)) then some s1.1 else zar (zcM p0 s2 (((s1.2.get s2).getD default).at_) p3) fun it6=>(zdk (fun (x6:Int×Int) (s7:(Mp round_reached)) k7=>must (0≤(x6.1:Int)∧(x6.1:Int)<((p0.Ways.length:Nat):Int)) <| (bif ((!(((s1.1.set s2 ((s1.2.get s2).getD default)).get ((p0.Ways.getD (x6.1).toNat default).To)).isSome)) && ((!((s7.get ((p0.Ways.getD (x6.1).toNat default).To)).isSome)) || (decide (x6.2<((s7.get ((p0.Ways.getD (x6.1).toNat default).To)).getD default).at_)))) then k7 (s7.set ((p0.Ways.getD (x6.1).toNat default).To) (⟨x6.2,x6.1⟩:round_reached)) else k7 s7)) (fun (s7:(Mp round_reached))=>k1 ((s1.1.set s2 ((s1.2.get s2).getD default)),s7)) it6 (s1.2.del s2)))) ((p0.Places).toNat) 0 (-1)))
theorem zjP (fuel:Nat) (p0:Chart) (p1 p2:Int) (p3:Int→Option Int):zdB fuel p0 p1 p2 p3=loopGo (zlf p0 p3) fuel ((Mp.empty:Mp round_reached),((Mp.empty:Mp round_reached).set p1 (⟨p2,(-1)⟩:round_reached))):=rfl
theorem znE {c:Chart} {T:Nat→Int} (N:Net c T) {s a0:Int} (hs:0≤s∧s<c.Places) (h0:0≤a0∧a0≤1439) (tk:Int→Option Int) (hk:∀ i:Nat,i<c.Ways.length→tk i=some (T i)) (out op:Rm) (D:Dij c T s a0 out op) (k:Rm×Rm→Option Rm) :
 (zlf c tk (out,op) k=some out∧∀ j,op.get j=none)∨∃ out' op',zlf c tk (out,op) k=k (out',op')∧Dij c T s a0 out' op'∧todo c out'<todo c out:=by
 have hv:=zdi.1 N.val
 unfold zlf
 dsimp only
 rw [zaz (by omega)]
 obtain ⟨q,hq,e⟩:=nxt_go op (R:=Rm) (fun (s2:Int)=>(bif (decide (s2<0)) then some out else zar (zcM c s2 (((op.get s2).getD default).at_) tk) fun it6=>(zdk (fun (x6:Int×Int) (s7:(Mp round_reached)) k7=>must (0≤(x6.1:Int)∧(x6.1:Int)<((c.Ways.length:Nat):Int)) <| (bif ((!(((out.set s2 ((op.get s2).getD default)).get ((c.Ways.getD (x6.1).toNat default).To)).isSome)) && ((!((s7.get ((c.Ways.getD (x6.1).toNat default).To)).isSome)) || (decide (x6.2<((s7.get ((c.Ways.getD (x6.1).toNat default).To)).getD default).at_)))) then k7 (s7.set ((c.Ways.getD (x6.1).toNat default).To) (⟨x6.2,x6.1⟩:round_reached)) else k7 s7)) (fun (s7:(Mp round_reached))=>k ((out.set s2 ((op.get s2).getD default)),s7)) it6 (op.del s2)))) c.Places.toNat 0 (-1) (.inl ⟨rfl,fun j hj=>by omega⟩)
 rw [e]
 rw [Nat.zero_add] at hq
 rcases hq with ⟨h1,h2⟩|⟨h1,x,h2,h3⟩
 · left
   subst h1
   refine ⟨rfl,fun j=>?_⟩
   cases hj:op.get j with
   | none=>rfl
   | some y=>
    have:=D.rng j y (.inr hj)
    have h4:=h2 j.toNat (by omega)
    rw [show ((j.toNat:Nat):Int)=j by omega,hj] at h4
    cases h4
 · right
   rw [decide_eq_false (by omega:¬ q<0),cond_false,h2,Option.getD_some]
   obtain ⟨hA,hW⟩:=D.snd q x (.inr h2)
   have bd:=hA.bounds N hs h0
   rw [zpD N (by omega) tk hk,zaM]
   have hno:out.get q=none:=by
    cases ho:out.get q with
    | none=>rfl
    | some y=>have:=D.dis q y ho;rw [h2] at this;cases this
   have hmin:∀ j y,op.get j=some y→x.at_≤y.at_:=fun j y hj=>by
    have:=D.rng j y (.inr hj)
    exact h3 j.toNat y (by omega) (by rw [show ((j.toNat:Nat):Int)=j by omega];exact hj)
   have hx:(out.set q x).get q=some x:=by rw [zbO,if_pos rfl]
   have R0:Run c T s a0 (out.set q x) x.at_ (op.del q) (op.del q):=by
    refine ⟨fun k z hz=>?_,fun k z hz=>?_,fun k z hz=>?_,fun j y hj=>?_,fun j y hj=>⟨y,hj,Int.le_refl _⟩⟩
    · rw [zgx] at hz
      split at hz
      · cases hz
      · exact D.rng k z (.inr hz)
    · rw [zgx] at hz
      split at hz
      · cases hz
      · obtain ⟨a1,a2⟩:=D.snd k z (.inr hz)
        refine ⟨a1,?_⟩
        rcases a2 with a2|⟨i,b1,b2,b3,y,b4,b5⟩
        · exact .inl a2
        · refine .inr ⟨i,b1,b2,b3,y,?_,b5⟩
          rw [zbO,if_neg (fun e=>by rw [e,hno] at b4;cases b4)]
          exact b4
    · rw [zgx]
      split
      · rfl
      · rename_i hne
        rw [zbO,if_neg hne] at hz
        exact D.dis k z hz
    · rw [zgx] at hj
      split at hj
      · cases hj
      · exact hmin j y hj
   obtain ⟨RF,hall,hless⟩:=zpm N hx hA ((List.range' 0 c.Ways.length).filterMap (item c T q x.at_)) (op.del q) (fun y hy=>zhD.1 hy) R0
   refine ⟨_,_,zpx c (out.set q x) _ _ (op.del q) (fun y hy=>?_),?_,zn7 (D.rng q x (.inr h2)) hno⟩
   · obtain ⟨i,hi,_,_,e2⟩:=zhD.1 hy
     omega
   · refine ⟨fun k z hz=>?_,fun k z hz=>?_,RF.dis,fun k z j y hz hj=>?_,fun k z hz i hi hfr b hb=>?_,?_⟩
     · rcases hz with hz|hz
       · rw [zbO] at hz
         split at hz
         · rename_i e1;subst e1;exact D.rng _ x (.inr h2)
         · exact D.rng k z (.inl hz)
       · exact RF.rng k z hz
     · rcases hz with hz|hz
       · have mono:∀ z:round_reached,((z.way = -1∧k=s∧z.at_=a0)∨∃ i:Nat,z.way=i∧i<c.Ways.length∧(way c i).To=k∧∃ y,out.get (way c i).From=some y∧fin (way c i) (T i) y.at_=some z.at_)→((z.way = -1∧k=s∧z.at_=a0)∨∃ i:Nat,z.way=i∧i<c.Ways.length∧(way c i).To=k∧∃ y,(out.set q x).get (way c i).From=some y∧fin (way c i) (T i) y.at_=some z.at_):=by
          rintro z (a2|⟨i,b1,b2,b3,y,b4,b5⟩)
          · exact .inl a2
          · refine .inr ⟨i,b1,b2,b3,y,?_,b5⟩
            rw [zbO,if_neg (fun e=>by rw [e,hno] at b4;cases b4)]
            exact b4
         rw [zbO] at hz
         split at hz
         · rename_i e1;subst e1;cases hz;exact ⟨hA,mono _ hW⟩
         · obtain ⟨a1,a2⟩:=D.snd k z (.inl hz)
           exact ⟨a1,mono _ a2⟩
       · exact RF.snd k z hz
     · have hj2:=RF.ord j y hj
       rw [zbO] at hz
       split at hz
       · cases hz;exact hj2
       · have:=D.ord k z q x hz h2;omega
     · rw [zbO] at hz
       split at hz
       · rename_i e1;subst e1;cases hz
         have hm:=hall ((i:Int),b) (zhD.2 ⟨i,hi,hfr,hb,rfl⟩)
         simp only [Int.toNat_natCast] at hm
         rcases hm with hm|hm
         · left
           have g:=znq (zhN (zca N.val hi)) (N.len i hi).1 hb
           obtain ⟨y,hy⟩:=Option.isSome_iff_exists.1 hm
           refine ⟨y,hy,?_⟩
           rw [zbO] at hy
           split at hy
           · cases hy;omega
           · have:=D.ord _ y _ x hy h2;omega
         · exact .inr hm
       · rcases D.cls k z hz i hi hfr b hb with ⟨y,hy1,hy2⟩|⟨y,hy1,hy2⟩
         · left
           refine ⟨y,?_,hy2⟩
           rw [zbO,if_neg (fun e=>by rw [e,hno] at hy1;cases hy1)]
           exact hy1
         · by_cases e1:(way c i).To=q
           · left
             rw [e1,h2] at hy1
             cases hy1
             exact ⟨x,by rw [e1];exact hx,hy2⟩
           · right
             obtain ⟨w,hw1,hw2⟩:=hless (way c i).To y (by rw [zgx,if_neg e1];exact hy1)
             exact ⟨w,hw1,by omega⟩
     · obtain ⟨y,hy1,hy2⟩:=D.st
       by_cases e1:s=q
       · subst e1
         rcases hy1 with hy1|hy1
         · rw [hno] at hy1;cases hy1
         · rw [h2] at hy1;cases hy1
           exact ⟨x,.inl hx,hy2⟩
       · rcases hy1 with hy1|hy1
         · exact ⟨y,.inl (by rw [zbO,if_neg e1];exact hy1),hy2⟩
         · obtain ⟨w,hw1,hw2⟩:=hless s y (by rw [zgx,if_neg e1];exact hy1)
           exact ⟨w,.inr hw1,by omega⟩
theorem dj_go {c:Chart} {T:Nat→Int} (N:Net c T) {s a0:Int} (hs:0≤s∧s<c.Places) (h0:0≤a0∧a0≤1439) (tk:Int→Option Int) (hk:∀ i:Nat,i<c.Ways.length→tk i=some (T i)) :
 ∀ (m n:Nat) (out op:Rm),Dij c T s a0 out op→todo c out≤m→m<n→∃ out' op',loopGo (zlf c tk) n (out,op)=some out'∧Dij c T s a0 out' op'∧∀ j,op'.get j=none:=by
 intro m
 induction m with
 | zero=>
  intro n out op D hm hn
  obtain ⟨n,rfl⟩:∃ k,n=k+1:=⟨n - 1,by omega⟩
  rcases znE N hs h0 tk hk out op D (loopGo (zlf c tk) n) with ⟨h1,h2⟩|⟨out',op',h1,h2,h3⟩
  · exact ⟨out,op,h1,D,h2⟩
  · omega
 | succ m ih=>
  intro n out op D hm hn
  obtain ⟨n,rfl⟩:∃ k,n=k+1:=⟨n - 1,by omega⟩
  rcases znE N hs h0 tk hk out op D (loopGo (zlf c tk) n) with ⟨h1,h2⟩|⟨out',op',h1,h2,h3⟩
  · exact ⟨out,op,h1,D,h2⟩
  · obtain ⟨o2,p2,k1,k2,k3⟩:=ih n out' op' h2 (by omega) (by omega)
    exact ⟨o2,p2,h1.trans k1,k2,k3⟩
structure DoneR (c:Chart) (T:Nat→Int) (s a0:Int) (out:Rm):Prop where
 lst:∀ p,Lst c T s a0 p ((out.get p).map (·.at_))
 rng:∀ k x,out.get k=some x→0≤k∧k<c.Places
 how:∀ k x,out.get k=some x→(x.way = -1∧k=s∧x.at_=a0)∨∃ i:Nat,x.way=i∧i<c.Ways.length∧(way c i).To=k∧∃ y,out.get (way c i).From=some y∧fin (way c i) (T i) y.at_=some x.at_
theorem zmi {c:Chart} {T:Nat→Int} (N:Net c T) {s a0:Int} (hs:0≤s∧s<c.Places) (h0:0≤a0∧a0≤1439) (tk:Int→Option Int) (hk:∀ i:Nat,i<c.Ways.length→tk i=some (T i)) {fuel:Nat} (hf:14≤fuel) :
 ∃ out,zdB fuel c s a0 tk=some out∧DoneR c T s a0 out:=by
 have hv:=zdi.1 N.val
 rw [zjP]
 have e0:∀ k,(Mp.empty:Rm).get k=none:=fun _=>rfl
 have ht:todo c (Mp.empty:Rm)≤12:=by
  unfold todo
  refine Nat.le_trans (List.length_filter_le _ _) ?_
  rw [List.length_range];omega
 have gs:∀ k x,((Mp.empty:Rm).get k=some x∨((Mp.empty:Rm).set s ⟨a0,-1⟩).get k=some x)→k=s∧x=⟨a0,-1⟩:=by
  rintro k x (h|h)
  · rw [e0] at h;cases h
  · rw [zbO] at h
    split at h
    · cases h;exact ⟨by assumption,rfl⟩
    · rw [e0] at h;cases h
 obtain ⟨out,op,h1,D,h2⟩:=dj_go N hs h0 tk hk 12 fuel (Mp.empty:Rm) ((Mp.empty:Rm).set s ⟨a0,-1⟩)
  ⟨fun k x h=>(gs k x h).1▸hs,fun k x h=>(by obtain ⟨rfl,rfl⟩:=gs k x h;exact ⟨.start,.inl ⟨rfl,rfl,rfl⟩⟩),fun k x h=>(by rw [e0] at h;cases h),fun k x j y h=>(by rw [e0] at h;cases h),
   fun k x h=>(by rw [e0] at h;cases h),⟨⟨a0,-1⟩,.inr (by rw [zbO,if_pos rfl]),Int.le_refl _⟩⟩ ht (by omega)
 refine ⟨out,h1,fun p=>?_,fun k x h=>D.rng k x (.inl h),fun k x h=>(D.snd k x (.inl h)).2⟩
 refine cert N (fun p=>(out.get p).map (·.at_)) (fun p a h=>?_) ?_ (fun i hi a b h3 h4=>?_) p
 · obtain ⟨x,e1,e2⟩:=Option.map_eq_some_iff.1 h
   subst e2
   exact (D.snd p x (.inl e1)).1
 · obtain ⟨x,e1,e2⟩:=D.st
   rcases e1 with e1|e1
   · exact ⟨x.at_,by rw [e1];rfl,e2⟩
   · rw [h2] at e1;cases e1
 · obtain ⟨x,e1,e2⟩:=Option.map_eq_some_iff.1 h3
   subst e2
   rcases D.cls _ x e1 i hi rfl b h4 with ⟨y,k1,k2⟩|⟨y,k1,k2⟩
   · exact ⟨y.at_,by rw [k1];rfl,k2⟩
   · rw [h2] at k1;cases k1
theorem zmr (c:Chart) (m:Rm):∀ (n i:Nat),i+n=c.Places.toNat→∀ L:List Int,L.length=c.Places.toNat→(∀ j,j<i→L.getD j default=match m.get (j:Int) with|some x=>x.at_|none=>-1) →
 ∃ L':List Int,zah (fun i2 (s2:(List Int)) k2=>must (0≤((i2:Int):Int)∧((i2:Int):Int)<((s2.length:Nat):Int)) <| (bif (m.get (i2:Int)).isSome then must (0≤((i2:Int):Int)∧((i2:Int):Int)<(((s2.set i2 (-1)).length:Nat):Int)) <| k2 ((s2.set i2 (-1)).set i2 (((m.get (i2:Int)).getD default).at_)) else k2 (s2.set i2 (-1)))) (fun (s2:(List Int))=>some s2) n i L=some L'∧L'.length=c.Places.toNat∧∀ j,j<c.Places.toNat→L'.getD j default=match m.get (j:Int) with|some x=>x.at_|none=>-1:=by
 intro n
 induction n with
 | zero=>intro i hi L hl h;exact ⟨L,rfl,hl,fun j hj=>h j (by omega)⟩
 | succ n ih=>
  intro i hi L hl h
  rw [zbA,zaz (by omega)]
  cases hm:m.get (i:Int) with
  | none=>
   rw [Option.isSome_none,cond_false]
   exact ih (i+1) (by omega) (L.set i (-1)) (by rw [List.length_set];exact hl) (fun j hj=>by
    rw [zeU _ _ _ _ (by omega)]
    split
    · rename_i e;subst e;rw [hm]
    · exact h j (by omega))
  | some x=>
   rw [Option.isSome_some,cond_true,zaz (by rw [List.length_set];omega),Option.getD_some]
   exact ih (i+1) (by omega) ((L.set i (-1)).set i x.at_) (by rw [List.length_set,List.length_set];exact hl) (fun j hj=>by
    rw [zeU _ _ _ _ (by rw [List.length_set];omega),zeU _ _ _ _ (by omega)]
    split
    · rename_i e;subst e;rw [hm]
    · exact h j (by omega))
theorem zjU {c:Chart} {T:Nat→Int} (N:Net c T) {s a0:Int} (hs:0≤s∧s<c.Places) (h0:0≤a0∧a0≤1439) {out:Rm} (D:DoneR c T s a0 out):∃ L,zcV c out=some L∧Mins c T s a0 L:=by
 have hv:=zdi.1 N.val
 unfold zcV
 rw [zaz ⟨by omega,by omega,zd7 (by omega) (by omega)⟩,zaz (by omega)]
 obtain ⟨L,h1,h2,h3⟩:=zmr c out c.Places.toNat 0 (by omega) (List.replicate c.Places.toNat 0) (by simp) (fun j hj=>by omega)
 refine ⟨L,h1,h2,fun p hp=>?_⟩
 rw [h3 p hp]
 have hl:=D.lst p
 cases hg:out.get (p:Int) with
 | none=>rw [hg] at hl;exact ⟨by simp,by simpa [mrk] using hl⟩
 | some x=>
  rw [hg] at hl
  have:=hl.1.bounds N hs h0
  dsimp only at this
  refine ⟨by simp only;omega,?_⟩
  simp only
  rw [zm6 (by omega)]
  exact hl
end Go.Sp
end
/- Plain laws: what is asked; Sure, Soonest, Walked; RoundTimes. No program in sight. -/
section
set_option linter.all false
namespace Go.Sp
open Go.Av
set_option maxRecDepth 100000
theorem zlh (l:List Int) (g:Int→Bool) (f:Int→Option Bool) (hf:∀ x∈l,f x=some (g x)):zaD l f=some (l.any g):=by
 have go:∀ n i,i+n=l.length→∃ z:Int,zah (fun i1 (_:Unit) k1=>zar (f (l.getD i1 default)) fun y3=>(bif y3 then some (i1:Int) else k1 ())) (fun (_:Unit)=>some (-1)) n i ()=some z∧(decide (0≤z))=(l.drop i).any g:=by
  intro n
  induction n with
  | zero=>
   intro i hi
   refine ⟨-1,rfl,?_⟩
   rw [List.drop_eq_nil_of_le (by omega)];rfl
  | succ n ih=>
   intro i hi
   rw [zl3 (by omega),List.any_cons,zbA,hf _ (by rw [List.getD_eq_getElem?_getD,List.getElem?_eq_getElem (by omega)];exact List.getElem_mem _),zaM]
   cases hg:g (l.getD i default) with
   | true=>exact ⟨i,rfl,by simp⟩
   | false=>
    obtain ⟨z,h1,h2⟩:=ih (i+1) (by omega)
    exact ⟨z,h1,by rw [h2];rfl⟩
 obtain ⟨z,h1,h2⟩:=go l.length 0 (by omega)
 show zar (zaR l f) _=_
 unfold zaR
 rw [h1,zaM,h2,List.drop_zero]
def zi3 (a:Int):Bool:=decide (0≤a∧a≤1439)
def isPl (c:Chart) (p:Int):Bool:=decide (0≤p∧p<c.Places)
def askE (c:Chart) (p a:Int):Int:=bif valid c then (bif zi3 a && isPl c p then 0 else 1) else 31
theorem zjY {a:Int}:zi3 a=true↔0≤a∧a≤1439:=by simp [zi3]
theorem zlS {c:Chart} {p:Int}:isPl c p=true↔0≤p∧p<c.Places:=by simp [isPl]
theorem zmL (c:Chart) (p:Int):zaB p 0 (c.Places - 1)=isPl c p:=by
 unfold zaB isPl
 rw [Bool.eq_iff_iff];simp;omega
theorem zme (a:Int):zbz a=zi3 a:=by
 unfold zbz zaB zi3
 rw [Bool.eq_iff_iff];simp
theorem zml (c:Chart) (a:Int) (l:List Int):zcs c a l=some (bif valid c then (bif zi3 a && l.all (isPl c) then 0 else 1) else 31):=by
 unfold zcs
 rw [zdZ,zaM]
 cases hv:valid c with
 | false=>rfl
 | true=>
  have h:=zdi.1 hv
  rw [cond_true,(by decide:decide ((0:Int)=0)=true),Bool.not_true,cond_false,zlh l (fun p=>!isPl c p) (fun x0=>zbX x0 c) (fun p _=>by
   unfold zbX
   rw [zaz (by unfold inI;omega),zmL]),zme,znW]
  cases zi3 a <;> cases l.all (isPl c) <;> rfl
theorem zkL (c:Chart) (p a:Int):zcs c a [p]=some (askE c p a):=by
 rw [zml]
 unfold askE
 simp
def pickT (high:Bool) (w:Way):Int:=bif high then w.Takes.Hi else w.Takes.Lo
def boT (c:Chart) (high:Bool) (i:Nat):Int:=pickT high (way c i)
theorem zlJ {c:Chart} (hv:valid c=true) (high:Bool):Net c (boT c high):=
 ⟨hv,fun i hi=>by
  have:=zco.1 (zca hv hi)
  unfold boT pickT
  cases high <;> simp only [cond_true,cond_false] <;> omega⟩
theorem zpv (c:Chart) (i:Nat) (hi:i<c.Ways.length):zcl (i:Int) c=some (boT c true i):=by
 unfold zcl
 rw [zaz (by omega)];rfl
theorem zne (c:Chart) (i:Nat) (hi:i<c.Ways.length):zb7 (i:Int) c=some (boT c false i):=by
 unfold zb7
 rw [zaz (by omega)];rfl
theorem zn6 (T:List Int) (i:Nat) (hi:i<T.length):zb6 (i:Int) T=some (Tl T i):=by
 unfold zb6
 rw [zaz (by omega)];rfl
theorem znS {c:Chart} {p a:Int} (h:askE c p a=0):valid c=true∧(0≤p∧p<c.Places)∧(0≤a∧a≤1439):=by
 unfold askE at h
 cases hv:valid c with
 | false=>rw [hv] at h;simp at h
 | true=>
  rw [hv] at h
  cases hb:zi3 a && isPl c p with
  | false=>rw [hb] at h;simp at h
  | true=>
   rw [Bool.and_eq_true] at hb
   exact ⟨rfl,zlS.1 hb.2,zjY.1 hb.1⟩
end Go.Sp
end
/- Plain laws: rounds, and when stops are begun. No program in sight. -/
section
set_option linter.all false
namespace Go.Sp
open Go.Av
set_option maxRecDepth 100000
def zoZ (c:Chart) (s:Stop):Bool:=zjN s && decide (s.Place<c.Places)
def isRd (c:Chart) (r:Round):Bool:=isPl c r.Place && zi3 r.At && decide (r.Stops.length≤16) && r.Stops.all (zoZ c)
theorem zmo (n:Nat) (h:n<41):∃ y,zge (((([(-1)]:List Int).length:Nat):Int)) (n:Int)=some y∧y.1=0∧y.2=(n:Int):=by
 have:∀ m:Fin 41,zge (((([(-1)]:List Int).length:Nat):Int)) ((m.val:Nat):Int)=some (0,((m.val:Nat):Int)):=by decide +kernel
 exact ⟨_,this ⟨n,h⟩,rfl,rfl⟩
theorem zlR {S R:Type} (f:(S→R)→R) (k:S→R):zet f k=f k:=rfl
theorem ziC {T:Type} [Inhabited T] (l:List T) (a m:Nat) (src:Nat→T):(zbn l a m src).length=l.length:=by simp [zbn]
theorem ziD {T:Type} [Inhabited T] (l:List T) (a m:Nat) (src:Nat→T) (q:Nat) (hq:q<l.length):(zbn l a m src).getD q default=if a≤q∧q<a+m then src (q - a) else l.getD q default:=by
 unfold zbn
 rw [List.getD_eq_getElem?_getD,List.getElem?_map,List.getElem?_range hq]
 rfl
theorem zmU (n:Nat) (hn:n≤1000):∀ (f b:Nat) (L:List Int),L.length=n→n - b<f→0<b→b≤n→(∀ j,j<b→L.getD j default = -1) →
 loopGo ((fun (s9:Int×(List Int)) k9=>(bif (decide (s9.1<((s9.2.length:Nat):Int))) then must (0<s9.2.length∧0≤(s9.1:Int)∧(s9.1:Int)≤((s9.2.length:Nat):Int)) <| must (0<s9.2.length∧0≤(s9.1:Int)∧(s9.1:Int)≤((s9.2.length:Nat):Int)) <| must (inI (s9.1+(((min ((s9.1).toNat - 0) (s9.2.length - (s9.1).toNat)):Nat):Int))) <| k9 ((s9.1+(((min ((s9.1).toNat - 0) (s9.2.length - (s9.1).toNat)):Nat):Int)),(zbn s9.2 ((s9.1).toNat) (min ((s9.1).toNat - 0) (s9.2.length - (s9.1).toNat)) (fun q=>s9.2.getD (0+q) default))) else some s9.2))) f ((b:Int),L)=some (List.replicate n (-1)):=by
 intro f
 induction f with
 | zero=>intro b L _ h;omega
 | succ f ih=>
  intro b L hl hf hb hbn hL
  rw [zkW]
  dsimp only
  by_cases hlt:b<n
  · have e:((b:Nat):Int).toNat=b:=by omega
    rw [decide_eq_true (by omega:((b:Nat):Int)<L.length),cond_true,e,zaz (by omega),zaz (by omega),zaz (by unfold inI;omega)]
    have e2:((b:Nat):Int)+((min (b - 0) (L.length - b):Nat):Int)=((b+min (b - 0) (L.length - b):Nat):Int):=by omega
    rw [e2]
    refine ih _ _ (by rw [ziC];exact hl) (by omega) (by omega) (by omega) (fun j hj=>?_)
    rw [ziD _ _ _ _ _ (by omega)]
    split
    · rw [Nat.zero_add];exact hL _ (by omega)
    · exact hL j (by omega)
  · rw [decide_eq_false (by omega:¬ ((b:Nat):Int)<L.length),cond_false]
    congr 1
    apply List.ext_getElem
    · simp [hl]
    · intro j h1 h2
      have:=hL j (by omega)
      rw [List.getD_eq_getElem?_getD,List.getElem?_eq_getElem h1] at this
      simpa using this
theorem zmV {fuel:Nat} (hf:41≤fuel) (n:Nat) (hn:n≤40):zaY fuel ([(-1)]:List Int) (n:Int)=some (List.replicate n (-1)):=by
 unfold zaY
 obtain ⟨y,h1,h2,h3⟩:=zmo n (by omega)
 rw [zlR,decide_eq_false (by omega:¬ ((n:Nat):Int)<0),cond_false,zaz (by unfold inU;simp),zaz (by unfold inU;omega),h1,zaM,zlR,h2,h3]
 rw [decide_eq_false (by omega:¬ (0:Int)<0),Bool.false_or,decide_eq_false (by omega:¬ (9223372036854775807:Int)<(n:Int)),cond_false,zaz (by unfold inI;omega)]
 rw [zaz ⟨by omega,by omega,zd7 (by omega) (by omega)⟩,Int.toNat_natCast]
 cases n with
 | zero=>
  obtain ⟨f,rfl⟩:∃ k,fuel=k+1:=⟨fuel - 1,by omega⟩
  rfl
 | succ n=>
  have e:(min ([(-1)]:List Int).length (List.replicate (n+1) (0:Int)).length)=1:=by simp
  rw [e]
  exact zmU (n+1) (by omega) fuel 1 _ (by rw [ziC];simp) (by omega) (by omega) (by omega) (fun j hj=>by
   rw [ziD _ _ _ _ _ (by simp;omega),if_pos (by omega)]
   have:j=0:=by omega
   subst this;rfl)
def Bgs (c:Chart) (T:Nat→Int):List Stop→Int→Int→List Int→Prop
 | [],_,_,L=>L=[]
 | s::r,p,a,L=>(1439<a∧L=List.replicate (r.length+1) (-1))∨(a≤1439∧((Lst c T p a s.Place none∧L=List.replicate (r.length+1) (-1)) ∨
  ∃ m,Lst c T p a s.Place (some m)∧((s.Window.Hi<max m s.Window.Lo∧L=List.replicate (r.length+1) (-1))∨(max m s.Window.Lo≤s.Window.Hi∧∃ L',L=max m s.Window.Lo::L'∧Bgs c T r s.Place (max m s.Window.Lo+s.Serve) L'))))
end Go.Sp
end
/- Plain laws: rounds that are in time, slack, rounds without a way. No program in sight. -/
section
set_option linter.all false
namespace Go.Sp
open Go.Av
set_option maxRecDepth 100000
def isTk (c:Chart) (T:List Int):Bool:=decide (T.length=c.Ways.length) && (List.range' 0 T.length).all fun i=>decide ((way c i).Takes.Lo≤Tl T i) && decide (Tl T i≤(way c i).Takes.Hi)
theorem zi2 {c:Chart} {T:List Int}:isTk c T=true↔T.length=c.Ways.length∧∀ i,i<c.Ways.length→(way c i).Takes.Lo≤Tl T i∧Tl T i≤(way c i).Takes.Hi:=by
 unfold isTk
 simp only [Bool.and_eq_true,decide_eq_true_eq,List.all_eq_true,List.mem_range'_1]
 constructor
 · rintro ⟨h1,h2⟩
   exact ⟨h1,fun i hi=>h2 i (by omega)⟩
 · rintro ⟨h1,h2⟩
   exact ⟨h1,fun i hi=>h2 i (by omega)⟩
theorem zlI {c:Chart} {T:List Int} (hv:valid c=true) (h:isTk c T=true):Net c (Tl T):=
 ⟨hv,fun i hi=>by
  have:=zco.1 (zca hv hi)
  have:=(zi2.1 h).2 i hi
  omega⟩
theorem zmG (c:Chart) (T:List Int) (hT:T.length=c.Ways.length):∀ n (i:Nat),i+n=T.length →
 zah ((fun i2 (s2:Unit) k2=>must (0≤((i2:Int):Int)∧((i2:Int):Int)<((c.Ways.length:Nat):Int)) <| (bif (!(zaB (T.getD i2 default) ((c.Ways.getD i2 default).Takes.Lo) ((c.Ways.getD i2 default).Takes.Hi))) then some false else k2 ()))) (fun (s2:Unit)=>some true) n i ()=some ((List.range' i n).all fun i=>decide ((way c i).Takes.Lo≤Tl T i) && decide (Tl T i≤(way c i).Takes.Hi)):=by
 intro n
 induction n with
 | zero=>intro i _;rfl
 | succ n ih=>
  intro i hi
  rw [zbA,List.range'_succ,List.all_cons,zaz (by omega)]
  have e:zaB (T.getD i default) ((c.Ways.getD i default).Takes.Lo) ((c.Ways.getD i default).Takes.Hi)=(decide ((way c i).Takes.Lo≤Tl T i) && decide (Tl T i≤(way c i).Takes.Hi)):=rfl
  rw [e]
  cases (decide ((way c i).Takes.Lo≤Tl T i) && decide (Tl T i≤(way c i).Takes.Hi)) with
  | false=>rfl
  | true=>
   rw [Bool.not_true,cond_false,Bool.true_and]
   exact ih (i+1) (by omega)
theorem ziI (c:Chart) (T:List Int):zct c T=some (isTk c T):=by
 unfold zct isTk
 by_cases h:T.length=c.Ways.length
 · rw [decide_eq_true (by omega:((T.length:Nat):Int)=c.Ways.length),Bool.not_true,cond_false,decide_eq_true h,Bool.true_and]
   exact zmG c T h T.length 0 (by omega)
 · rw [decide_eq_false (by omega:¬ ((T.length:Nat):Int)=c.Ways.length),decide_eq_false h];rfl
def tkE (c:Chart) (T:List Int):Int:=bif valid c then (bif isTk c T then 0 else 38) else 31
theorem zkg (c:Chart) (T:List Int):zbY c T=some (tkE c T):=by
 unfold zbY tkE
 rw [zdZ,zaM]
 cases hv:valid c with
 | false=>rfl
 | true=>
  rw [cond_true,(by decide:decide ((0:Int)=0)=true),Bool.not_true,cond_false,ziI,zaM]
  cases isTk c T <;> rfl
def WalkP (c:Chart) (T:List Int) (p a:Int) (r:List Int×Int):Prop:=
 (askE c p a≠0∧r=([],askE c p a))∨(askE c p a=0∧isTk c T=false∧r=([],38))∨(askE c p a=0∧isTk c T=true∧r.2=0∧Mins c (Tl T) p a r.1)
theorem zmM {fuel:Nat} (hf:20000≤fuel) (c:Chart) (T:List Int) (p a:Int):∃ r,zcN fuel c T p a=some r∧WalkP c T p a r:=by
 unfold zcN
 rw [zkL,zaM]
 by_cases h:askE c p a=0
 · rw [h,(by decide:decide ((0:Int)=0)=true),Bool.not_true,cond_false]
   obtain ⟨hv,hp,ha⟩:=znS h
   rw [ziI,zaM]
   cases ht:isTk c T with
   | false=>exact ⟨_,rfl,.inr (.inl ⟨h,ht,rfl⟩)⟩
   | true=>
    have hl:=(zi2.1 ht).1
    obtain ⟨out,e,D⟩:=zmi (zlI hv ht) hp ha (fun x0=>zb6 x0 T) (fun i hi=>zn6 T i (by omega)) (fuel:=fuel) (by omega)
    obtain ⟨L,e2,M⟩:=zjU (zlI hv ht) hp ha D
    rw [Bool.not_true,cond_false,e,zaM,e2,zaM]
    exact ⟨(L,0),rfl,.inr (.inr ⟨h,ht,rfl,M⟩)⟩
 · rw [decide_eq_false h,Bool.not_false,cond_true]
   exact ⟨_,rfl,.inl ⟨h,rfl⟩⟩
def allB (L:List Int):Bool:=L.all fun x=>decide (0≤x)
structure RdOk (c:Chart) (r:Round):Prop where
 pl:0≤r.Place∧r.Place<c.Places
 at_:0≤r.At∧r.At≤100000
 len:r.Stops.length≤16
 ok:∀ s∈r.Stops,zoZ c s=true
def Still (c:Chart) (r:Round) (d:Int):Prop:=r.At+d≤1439∧∃ L,Bgs c (boT c true) r.Stops r.Place (r.At+d) L∧allB L=true
end Go.Sp
end
/- Plain laws: what numbers determine; RoundLater, RoundSure. No program in sight. -/
section
set_option linter.all false
namespace Go.Sp
open Go.Av
set_option maxRecDepth 100000
structure MadeP (c:Chart) (r:Round):Prop where
 val:valid c=true
 rd:isRd c r=true
 ways:c.Ways.length≤12
 pl:2≤c.Places∧c.Places≤6
 at_:r.At<150
end Go.Sp
end
/- Plain laws: RoundWays, RoundTrue. No program in sight. -/
section
set_option linter.all false
namespace Go.Sp
open Go.Av
set_option maxRecDepth 100000
end Go.Sp
end
/- Plain laws: the matrix. No program in sight. -/
section
set_option linter.all false
namespace Go.Sp
open Go.Av
set_option maxRecDepth 100000
def mat {T:Type} [Inhabited T] (s:List (List T)) (p q:Nat):T:=(s.getD p []).getD q default
structure Shp {T:Type} (P:Nat) (s:List (List T)):Prop where
 len:s.length=P
 row:∀ p,p<P→(s.getD p []).length=P
theorem zef {T:Type} (l:List T) (i j:Nat) (x d:T) (hi:i<l.length):(l.set i x).getD j d=if j=i then x else l.getD j d:=by
 rw [List.getD_eq_getElem?_getD,List.getElem?_set,List.getD_eq_getElem?_getD]
 by_cases h:i=j
 · subst h;simp [hi]
 · rw [if_neg h,if_neg (fun e=>h e.symm)]
theorem zkT {T:Type} [Inhabited T] {P:Nat} {s:List (List T)} (h:Shp P s) {p q:Nat} (hp:p<P) (hq:q<P) (v:T) :
 Shp P (s.set p ((s.getD p []).set q v))∧∀ p' q',mat (s.set p ((s.getD p []).set q v)) p' q'=if p'=p∧q'=q then v else mat s p' q':=by
 have hr:=h.row p hp
 have hl:=h.len
 refine ⟨⟨by rw [List.length_set];exact hl,fun p' hp'=>?_⟩,fun p' q'=>?_⟩
 · rw [zef _ _ _ _ _ (by omega)]
   split
   · rw [List.length_set];exact hr
   · exact h.row p' hp'
 · unfold mat
   rw [zef _ _ _ _ _ (by omega)]
   by_cases e:p'=p
   · subst e
     rw [if_pos rfl,zeU _ _ _ _ (by omega)]
     by_cases e2:q'=q
     · rw [if_pos e2,if_pos ⟨rfl,e2⟩]
     · rw [if_neg e2,if_neg (fun x=>e2 x.2)]
   · rw [if_neg e,if_neg (fun x=>e x.1)]
abbrev Mx:=Nat→Nat→Int
def upd (c a b:Int):Int:=if 0≤a∧0≤b∧(c<0∨a+b<c) then a+b else c
def alw (w:Way):Bool:=decide (w.Every=0) && (decide (w.Open.Lo=0) && decide (w.Open.Hi=1439))
def m0:Mx:=fun p q=>if p=q then 0 else -1
def mw (c:Chart) (T:Nat→Int):Nat→Mx
 | 0=>m0
 | n+1=>fun p q=>if p=(way c n).From.toNat∧q=(way c n).To.toNat∧alw (way c n)=true∧(mw c T n p q<0∨T n<mw c T n p q) then T n else mw c T n p q
def fw (M:Mx):Nat→Mx
 | 0=>M
 | k+1=>fun p q=>upd (fw M k p q) (fw M k p k) (fw M k k q)
def dst (c:Chart) (T:Nat→Int):Mx:=fw (mw c T c.Ways.length) c.Places.toNat
structure Nice (P:Nat) (B:Int) (M:Mx):Prop where
 ge:∀ p q,p<P→q<P → -1≤M p q∧M p q≤B
 dg:∀ p,p<P→M p p=0
theorem Nice.upd {P:Nat} {B:Int} {M:Mx} (h:Nice P B M) (hB:0≤B) {k:Nat} (hk:k<P):Nice P (2 * B) (fun p q=>upd (M p q) (M p k) (M k q)):=by
 refine ⟨fun p q hp hq=>?_,fun p hp=>?_⟩
 · have a:=h.ge p q hp hq
   have b:=h.ge p k hp hk
   have c:=h.ge k q hk hq
   unfold Sp.upd
   split <;> omega
 · have a:=h.dg p hp
   have b:=h.ge p k hp hk
   have c:=h.ge k p hk hp
   unfold Sp.upd
   rw [a,if_neg (by omega)]
theorem zhA {c:Chart} {T:Nat→Int} (N:Net c T):∀ n,n≤c.Ways.length→Nice c.Places.toNat 600 (mw c T n)
 | 0,_=>⟨fun p q _ _=>by unfold mw m0;split <;> omega,fun p _=>by unfold mw m0;rw [if_pos rfl]⟩
 | n+1,hn=>by
  have h:=zhA N n (by omega)
  have J:=zco.1 (zca N.val (i:=n) (by omega))
  have t:=N.len n (by omega)
  refine ⟨fun p q hp hq=>?_,fun p hp=>?_⟩
  · have:=h.ge p q hp hq
    unfold mw
    split <;> omega
  · have:=h.dg p hp
    unfold mw
    rw [if_neg (fun x=>by omega)]
    exact this
def bnd:Nat→Int
 | 0=>600
 | k+1=>2 * bnd k
theorem zl9:∀ k,600≤bnd k
 | 0=>Int.le_refl _
 | k+1=>by have:=zl9 k;unfold bnd;omega
theorem zl8:∀ {j k},j≤k→bnd j≤bnd k
 | j,0,h=>by have:j=0:=(by omega);subst this;exact Int.le_refl _
 | j,k+1,h=>by
  by_cases e:j=k+1
  · subst e;exact Int.le_refl _
  · have:=zl8 (j:=j) (k:=k) (by omega)
    have:=zl9 k
    show _≤2 * bnd k
    omega
theorem bnd_12 {k:Nat} (h:k≤12):bnd k≤2457600:=Int.le_trans (zl8 h) (by decide)
theorem ziU {P:Nat} {M:Mx} (h:Nice P 600 M):∀ k,k≤P→Nice P (bnd k) (fw M k)
 | 0,_=>h
 | k+1,hk=>(ziU h k (by omega)).upd (by have:=zl9 k;omega) (by omega)
structure Mid (P:Nat) (M:Mx) (k p i:Nat) (s:List (List Int)):Prop where
 shp:Shp P s
 val:∀ p' q',p'<P→q'<P→mat s p' q'=if p'<p∨(p'=p∧q'<i) then upd (M p' q') (M p' k) (M k q') else M p' q'
theorem upd_a {a:Int}:upd a a 0=a:=by unfold upd;rw [if_neg (by omega)]
theorem upd_b {b:Int}:upd b 0 b=b:=by unfold upd;rw [if_neg (by omega)]
theorem Mid.colk {P:Nat} {B:Int} {M:Mx} (N:Nice P B M) {k p i:Nat} (hk:k<P) {s:List (List Int)} (h:Mid P M k p i s) {p':Nat} (hp:p'<P):mat s p' k=M p' k:=by
 rw [h.val p' k hp hk]
 split
 · rw [N.dg k hk,upd_a]
 · rfl
theorem Mid.rowk {P:Nat} {B:Int} {M:Mx} (N:Nice P B M) {k p i:Nat} (hk:k<P) {s:List (List Int)} (h:Mid P M k p i s) {q':Nat} (hq:q'<P):mat s k q'=M k q':=by
 rw [h.val k q' hk hq]
 split
 · rw [N.dg k hk,upd_b]
 · rfl
theorem zpg {P:Nat} {B:Int} {M:Mx} (N:Nice P B M) (hB:0≤B∧B≤100000000) {R:Type} (ex:List (List Int)→Option R) {i21 i23:Nat} (hk:i21<P) (hp:i23<P):∀ (n i:Nat),i+n=P→∀ s,Mid P M i21 i23 i s →
 ∃ s',Mid P M i21 i23 P s'∧zah ((fun i25 (s25:(List (List Int))) k25=>must (0≤((i23:Int):Int)∧((i23:Int):Int)<((s25.length:Nat):Int)) <| must (0≤((i21:Int):Int)∧((i21:Int):Int)<(((s25.getD i23 []).length:Nat):Int)) <| must (0≤((i21:Int):Int)∧((i21:Int):Int)<((s25.length:Nat):Int)) <| must (0≤((i25:Int):Int)∧((i25:Int):Int)<(((s25.getD i21 []).length:Nat):Int)) <| must ((((decide (0≤((s25.getD i23 []).getD i21 default))) && (decide (0≤((s25.getD i21 []).getD i25 default))))=true→(0≤((i23:Int):Int)∧((i23:Int):Int)<((s25.length:Nat):Int)))) <| must ((((decide (0≤((s25.getD i23 []).getD i21 default))) && (decide (0≤((s25.getD i21 []).getD i25 default))))=true→(0≤((i25:Int):Int)∧((i25:Int):Int)<(((s25.getD i23 []).length:Nat):Int)))) <| must (((((decide (0≤((s25.getD i23 []).getD i21 default))) && (decide (0≤((s25.getD i21 []).getD i25 default)))) && !(decide (((s25.getD i23 []).getD i25 default)<0)))=true→(inI (((s25.getD i23 []).getD i21 default)+((s25.getD i21 []).getD i25 default))))) <| must (((((decide (0≤((s25.getD i23 []).getD i21 default))) && (decide (0≤((s25.getD i21 []).getD i25 default)))) && !(decide (((s25.getD i23 []).getD i25 default)<0)))=true→(0≤((i23:Int):Int)∧((i23:Int):Int)<((s25.length:Nat):Int)))) <| must (((((decide (0≤((s25.getD i23 []).getD i21 default))) && (decide (0≤((s25.getD i21 []).getD i25 default)))) && !(decide (((s25.getD i23 []).getD i25 default)<0)))=true→(0≤((i25:Int):Int)∧((i25:Int):Int)<(((s25.getD i23 []).length:Nat):Int)))) <| (bif (((decide (0≤((s25.getD i23 []).getD i21 default))) && (decide (0≤((s25.getD i21 []).getD i25 default)))) && ((decide (((s25.getD i23 []).getD i25 default)<0)) || (decide ((((s25.getD i23 []).getD i21 default)+((s25.getD i21 []).getD i25 default))<((s25.getD i23 []).getD i25 default))))) then must (0≤((i23:Int):Int)∧((i23:Int):Int)<((s25.length:Nat):Int)) <| must (inI (((s25.getD i23 []).getD i21 default)+((s25.getD i21 []).getD i25 default))) <| must (0≤((i25:Int):Int)∧((i25:Int):Int)<(((s25.getD i23 []).length:Nat):Int)) <| k25 (s25.set i23 ((s25.getD i23 []).set i25 (((s25.getD i23 []).getD i21 default)+((s25.getD i21 []).getD i25 default)))) else k25 s25))) ex n i s=ex s':=by
 intro n
 induction n with
 | zero=>intro i hi s h;have e:i=P:=(by omega);subst e;exact ⟨s,h,rfl⟩
 | succ n ih=>
  intro i hi s h
  have hlt:i<P:=by omega
  have hl:=h.shp.len
  have r1:=h.shp.row i23 hp
  have r2:=h.shp.row i21 hk
  have ea:mat s i23 i21=M i23 i21:=h.colk N hk hp
  have eb:mat s i21 i=M i21 i:=h.rowk N hk hlt
  have ec:mat s i23 i=M i23 i:=by rw [h.val i23 i hp hlt,if_neg (by omega)]
  have ga:=N.ge i23 i21 hp hk
  have gb:=N.ge i21 i hk hlt
  rw [zbA]
  have ha':(s.getD i23 []).getD i21 default=M i23 i21:=ea
  have hb':(s.getD i21 []).getD i default=M i21 i:=eb
  have hc':(s.getD i23 []).getD i default=M i23 i:=ec
  rw [ha',hb',hc',zaz (by omega),zaz (by omega),zaz (by omega),zaz (by omega),zaz (fun _=>by omega),zaz (fun _=>by omega),zaz (fun _=>by unfold inI;omega),zaz (fun _=>by omega),zaz (fun _=>by omega)]
  by_cases hc:0≤M i23 i21∧0≤M i21 i∧(M i23 i<0∨M i23 i21+M i21 i<M i23 i)
  · have:((decide (0≤M i23 i21) && decide (0≤M i21 i)) && (decide (M i23 i<0) || decide (M i23 i21+M i21 i<M i23 i)))=true:=by
     simp only [Bool.and_eq_true,Bool.or_eq_true,decide_eq_true_eq];omega
    rw [this,cond_true,zaz (by omega),zaz (by unfold inI;omega),zaz (by omega)]
    obtain ⟨t1,t2⟩:=zkT h.shp hp hlt (M i23 i21+M i21 i)
    refine ih (i+1) (by omega) _ ⟨t1,fun p' q' hp' hq'=>?_⟩
    rw [t2 p' q']
    by_cases e:p'=i23∧q'=i
    · obtain ⟨rfl,rfl⟩:=e
      rw [if_pos ⟨rfl,rfl⟩,if_pos (by omega)]
      unfold upd
      rw [if_pos hc]
    · rw [if_neg e,h.val p' q' hp' hq']
      by_cases e2:p'<i23∨p'=i23∧q'<i
      · rw [if_pos e2,if_pos (by omega)]
      · rw [if_neg e2,if_neg (by omega)]
  · have:((decide (0≤M i23 i21) && decide (0≤M i21 i)) && (decide (M i23 i<0) || decide (M i23 i21+M i21 i<M i23 i)))=false:=by
     rw [← Bool.not_eq_true]
     simp only [Bool.and_eq_true,Bool.or_eq_true,decide_eq_true_eq];omega
    rw [this,cond_false]
    refine ih (i+1) (by omega) s ⟨h.shp,fun p' q' hp' hq'=>?_⟩
    rw [h.val p' q' hp' hq']
    by_cases e:p'=i23∧q'=i
    · obtain ⟨rfl,rfl⟩:=e
      rw [if_neg (by omega),if_pos (by omega)]
      unfold upd
      rw [if_neg hc]
    · by_cases e2:p'<i23∨p'=i23∧q'<i
      · rw [if_pos e2,if_pos (by omega)]
      · rw [if_neg e2,if_neg (by omega)]
theorem zph {p0:Chart} {P:Nat} (hP:P=p0.Places.toNat) (hP2:P≤12) {B:Int} {M:Mx} (N:Nice P B M) (hB:0≤B∧B≤100000000) {R:Type} (ex:List (List Int)→Option R) {i21:Nat} (hk:i21<P):∀ (n i:Nat),i+n=P→∀ s,Mid P M i21 i 0 s →
 ∃ s',Mid P M i21 P 0 s'∧zah ((fun i23 (s23:(List (List Int))) k23=>must ((p0.Places).toNat≤9223372036854775807) <| (zah (fun i25 (s25:(List (List Int))) k25=>must (0≤((i23:Int):Int)∧((i23:Int):Int)<((s25.length:Nat):Int)) <| must (0≤((i21:Int):Int)∧((i21:Int):Int)<(((s25.getD i23 []).length:Nat):Int)) <| must (0≤((i21:Int):Int)∧((i21:Int):Int)<((s25.length:Nat):Int)) <| must (0≤((i25:Int):Int)∧((i25:Int):Int)<(((s25.getD i21 []).length:Nat):Int)) <| must ((((decide (0≤((s25.getD i23 []).getD i21 default))) && (decide (0≤((s25.getD i21 []).getD i25 default))))=true→(0≤((i23:Int):Int)∧((i23:Int):Int)<((s25.length:Nat):Int)))) <| must ((((decide (0≤((s25.getD i23 []).getD i21 default))) && (decide (0≤((s25.getD i21 []).getD i25 default))))=true→(0≤((i25:Int):Int)∧((i25:Int):Int)<(((s25.getD i23 []).length:Nat):Int)))) <| must (((((decide (0≤((s25.getD i23 []).getD i21 default))) && (decide (0≤((s25.getD i21 []).getD i25 default)))) && !(decide (((s25.getD i23 []).getD i25 default)<0)))=true→(inI (((s25.getD i23 []).getD i21 default)+((s25.getD i21 []).getD i25 default))))) <| must (((((decide (0≤((s25.getD i23 []).getD i21 default))) && (decide (0≤((s25.getD i21 []).getD i25 default)))) && !(decide (((s25.getD i23 []).getD i25 default)<0)))=true→(0≤((i23:Int):Int)∧((i23:Int):Int)<((s25.length:Nat):Int)))) <| must (((((decide (0≤((s25.getD i23 []).getD i21 default))) && (decide (0≤((s25.getD i21 []).getD i25 default)))) && !(decide (((s25.getD i23 []).getD i25 default)<0)))=true→(0≤((i25:Int):Int)∧((i25:Int):Int)<(((s25.getD i23 []).length:Nat):Int)))) <| (bif (((decide (0≤((s25.getD i23 []).getD i21 default))) && (decide (0≤((s25.getD i21 []).getD i25 default)))) && ((decide (((s25.getD i23 []).getD i25 default)<0)) || (decide ((((s25.getD i23 []).getD i21 default)+((s25.getD i21 []).getD i25 default))<((s25.getD i23 []).getD i25 default))))) then must (0≤((i23:Int):Int)∧((i23:Int):Int)<((s25.length:Nat):Int)) <| must (inI (((s25.getD i23 []).getD i21 default)+((s25.getD i21 []).getD i25 default))) <| must (0≤((i25:Int):Int)∧((i25:Int):Int)<(((s25.getD i23 []).length:Nat):Int)) <| k25 (s25.set i23 ((s25.getD i23 []).set i25 (((s25.getD i23 []).getD i21 default)+((s25.getD i21 []).getD i25 default)))) else k25 s25)) (fun (s25:(List (List Int)))=>k23 s25) ((p0.Places).toNat) 0 s23))) ex n i s=ex s':=by
 subst hP
 intro n
 induction n with
 | zero=>intro i hi s h;have e:i=p0.Places.toNat:=(by omega);rw [e] at h;exact ⟨s,h,rfl⟩
 | succ n ih=>
  intro i hi s h
  rw [zbA]
  obtain ⟨s',h1,h2⟩:=zpg N hB (zah ((fun i23 (s23:(List (List Int))) k23=>must ((p0.Places).toNat≤9223372036854775807) <| (zah (fun i25 (s25:(List (List Int))) k25=>must (0≤((i23:Int):Int)∧((i23:Int):Int)<((s25.length:Nat):Int)) <| must (0≤((i21:Int):Int)∧((i21:Int):Int)<(((s25.getD i23 []).length:Nat):Int)) <| must (0≤((i21:Int):Int)∧((i21:Int):Int)<((s25.length:Nat):Int)) <| must (0≤((i25:Int):Int)∧((i25:Int):Int)<(((s25.getD i21 []).length:Nat):Int)) <| must ((((decide (0≤((s25.getD i23 []).getD i21 default))) && (decide (0≤((s25.getD i21 []).getD i25 default))))=true→(0≤((i23:Int):Int)∧((i23:Int):Int)<((s25.length:Nat):Int)))) <| must ((((decide (0≤((s25.getD i23 []).getD i21 default))) && (decide (0≤((s25.getD i21 []).getD i25 default))))=true→(0≤((i25:Int):Int)∧((i25:Int):Int)<(((s25.getD i23 []).length:Nat):Int)))) <| must (((((decide (0≤((s25.getD i23 []).getD i21 default))) && (decide (0≤((s25.getD i21 []).getD i25 default)))) && !(decide (((s25.getD i23 []).getD i25 default)<0)))=true→(inI (((s25.getD i23 []).getD i21 default)+((s25.getD i21 []).getD i25 default))))) <| must (((((decide (0≤((s25.getD i23 []).getD i21 default))) && (decide (0≤((s25.getD i21 []).getD i25 default)))) && !(decide (((s25.getD i23 []).getD i25 default)<0)))=true→(0≤((i23:Int):Int)∧((i23:Int):Int)<((s25.length:Nat):Int)))) <| must (((((decide (0≤((s25.getD i23 []).getD i21 default))) && (decide (0≤((s25.getD i21 []).getD i25 default)))) && !(decide (((s25.getD i23 []).getD i25 default)<0)))=true→(0≤((i25:Int):Int)∧((i25:Int):Int)<(((s25.getD i23 []).length:Nat):Int)))) <| (bif (((decide (0≤((s25.getD i23 []).getD i21 default))) && (decide (0≤((s25.getD i21 []).getD i25 default)))) && ((decide (((s25.getD i23 []).getD i25 default)<0)) || (decide ((((s25.getD i23 []).getD i21 default)+((s25.getD i21 []).getD i25 default))<((s25.getD i23 []).getD i25 default))))) then must (0≤((i23:Int):Int)∧((i23:Int):Int)<((s25.length:Nat):Int)) <| must (inI (((s25.getD i23 []).getD i21 default)+((s25.getD i21 []).getD i25 default))) <| must (0≤((i25:Int):Int)∧((i25:Int):Int)<(((s25.getD i23 []).length:Nat):Int)) <| k25 (s25.set i23 ((s25.getD i23 []).set i25 (((s25.getD i23 []).getD i21 default)+((s25.getD i21 []).getD i25 default)))) else k25 s25)) (fun (s25:(List (List Int)))=>k23 s25) ((p0.Places).toNat) 0 s23))) ex n (i+1)) hk (by omega:i<p0.Places.toNat) p0.Places.toNat 0 (by omega) s h
  obtain ⟨s2,h3,h4⟩:=ih (i+1) (by omega) s' ⟨h1.shp,fun p' q' hp' hq'=>by
   rw [h1.val p' q' hp' hq']
   by_cases e:p'<i∨p'=i∧q'<p0.Places.toNat
   · rw [if_pos e,if_pos (by omega)]
   · rw [if_neg e,if_neg (by omega)]⟩
  refine ⟨s2,h3,?_⟩
  rw [zaz (by omega)]
  exact h2.trans h4
theorem zpi {p0:Chart} {P:Nat} (hP:P=p0.Places.toNat) (hP2:P≤12) {M:Mx} (N:Nice P 600 M) {R:Type} (ex:List (List Int)→Option R):∀ (n i:Nat),i+n=P→∀ s,Shp P s→(∀ p q,p<P→q<P→mat s p q=fw M i p q) →
 ∃ s',Shp P s'∧(∀ p q,p<P→q<P→mat s' p q=fw M P p q)∧zah ((fun i21 (s21:(List (List Int))) k21=>must ((p0.Places).toNat≤9223372036854775807) <| (zah (fun i23 (s23:(List (List Int))) k23=>must ((p0.Places).toNat≤9223372036854775807) <| (zah (fun i25 (s25:(List (List Int))) k25=>must (0≤((i23:Int):Int)∧((i23:Int):Int)<((s25.length:Nat):Int)) <| must (0≤((i21:Int):Int)∧((i21:Int):Int)<(((s25.getD i23 []).length:Nat):Int)) <| must (0≤((i21:Int):Int)∧((i21:Int):Int)<((s25.length:Nat):Int)) <| must (0≤((i25:Int):Int)∧((i25:Int):Int)<(((s25.getD i21 []).length:Nat):Int)) <| must ((((decide (0≤((s25.getD i23 []).getD i21 default))) && (decide (0≤((s25.getD i21 []).getD i25 default))))=true→(0≤((i23:Int):Int)∧((i23:Int):Int)<((s25.length:Nat):Int)))) <| must ((((decide (0≤((s25.getD i23 []).getD i21 default))) && (decide (0≤((s25.getD i21 []).getD i25 default))))=true→(0≤((i25:Int):Int)∧((i25:Int):Int)<(((s25.getD i23 []).length:Nat):Int)))) <| must (((((decide (0≤((s25.getD i23 []).getD i21 default))) && (decide (0≤((s25.getD i21 []).getD i25 default)))) && !(decide (((s25.getD i23 []).getD i25 default)<0)))=true→(inI (((s25.getD i23 []).getD i21 default)+((s25.getD i21 []).getD i25 default))))) <| must (((((decide (0≤((s25.getD i23 []).getD i21 default))) && (decide (0≤((s25.getD i21 []).getD i25 default)))) && !(decide (((s25.getD i23 []).getD i25 default)<0)))=true→(0≤((i23:Int):Int)∧((i23:Int):Int)<((s25.length:Nat):Int)))) <| must (((((decide (0≤((s25.getD i23 []).getD i21 default))) && (decide (0≤((s25.getD i21 []).getD i25 default)))) && !(decide (((s25.getD i23 []).getD i25 default)<0)))=true→(0≤((i25:Int):Int)∧((i25:Int):Int)<(((s25.getD i23 []).length:Nat):Int)))) <| (bif (((decide (0≤((s25.getD i23 []).getD i21 default))) && (decide (0≤((s25.getD i21 []).getD i25 default)))) && ((decide (((s25.getD i23 []).getD i25 default)<0)) || (decide ((((s25.getD i23 []).getD i21 default)+((s25.getD i21 []).getD i25 default))<((s25.getD i23 []).getD i25 default))))) then must (0≤((i23:Int):Int)∧((i23:Int):Int)<((s25.length:Nat):Int)) <| must (inI (((s25.getD i23 []).getD i21 default)+((s25.getD i21 []).getD i25 default))) <| must (0≤((i25:Int):Int)∧((i25:Int):Int)<(((s25.getD i23 []).length:Nat):Int)) <| k25 (s25.set i23 ((s25.getD i23 []).set i25 (((s25.getD i23 []).getD i21 default)+((s25.getD i21 []).getD i25 default)))) else k25 s25)) (fun (s25:(List (List Int)))=>k23 s25) ((p0.Places).toNat) 0 s23)) (fun (s23:(List (List Int)))=>k21 s23) ((p0.Places).toNat) 0 s21))) ex n i s=ex s':=by
 subst hP
 intro n
 induction n with
 | zero=>intro i hi s h1 h2;have e:i=p0.Places.toNat:=(by omega);rw [e] at h2;exact ⟨s,h1,h2,rfl⟩
 | succ n ih=>
  intro i hi s h1 h2
  rw [zbA]
  have Ni:=ziU N i (by omega)
  have bg:=zl9 i
  have bl:=bnd_12 (k:=i) (by omega)
  obtain ⟨s',h3,h4⟩:=zph rfl hP2 Ni (by omega) (zah ((fun i21 (s21:(List (List Int))) k21=>must ((p0.Places).toNat≤9223372036854775807) <| (zah (fun i23 (s23:(List (List Int))) k23=>must ((p0.Places).toNat≤9223372036854775807) <| (zah (fun i25 (s25:(List (List Int))) k25=>must (0≤((i23:Int):Int)∧((i23:Int):Int)<((s25.length:Nat):Int)) <| must (0≤((i21:Int):Int)∧((i21:Int):Int)<(((s25.getD i23 []).length:Nat):Int)) <| must (0≤((i21:Int):Int)∧((i21:Int):Int)<((s25.length:Nat):Int)) <| must (0≤((i25:Int):Int)∧((i25:Int):Int)<(((s25.getD i21 []).length:Nat):Int)) <| must ((((decide (0≤((s25.getD i23 []).getD i21 default))) && (decide (0≤((s25.getD i21 []).getD i25 default))))=true→(0≤((i23:Int):Int)∧((i23:Int):Int)<((s25.length:Nat):Int)))) <| must ((((decide (0≤((s25.getD i23 []).getD i21 default))) && (decide (0≤((s25.getD i21 []).getD i25 default))))=true→(0≤((i25:Int):Int)∧((i25:Int):Int)<(((s25.getD i23 []).length:Nat):Int)))) <| must (((((decide (0≤((s25.getD i23 []).getD i21 default))) && (decide (0≤((s25.getD i21 []).getD i25 default)))) && !(decide (((s25.getD i23 []).getD i25 default)<0)))=true→(inI (((s25.getD i23 []).getD i21 default)+((s25.getD i21 []).getD i25 default))))) <| must (((((decide (0≤((s25.getD i23 []).getD i21 default))) && (decide (0≤((s25.getD i21 []).getD i25 default)))) && !(decide (((s25.getD i23 []).getD i25 default)<0)))=true→(0≤((i23:Int):Int)∧((i23:Int):Int)<((s25.length:Nat):Int)))) <| must (((((decide (0≤((s25.getD i23 []).getD i21 default))) && (decide (0≤((s25.getD i21 []).getD i25 default)))) && !(decide (((s25.getD i23 []).getD i25 default)<0)))=true→(0≤((i25:Int):Int)∧((i25:Int):Int)<(((s25.getD i23 []).length:Nat):Int)))) <| (bif (((decide (0≤((s25.getD i23 []).getD i21 default))) && (decide (0≤((s25.getD i21 []).getD i25 default)))) && ((decide (((s25.getD i23 []).getD i25 default)<0)) || (decide ((((s25.getD i23 []).getD i21 default)+((s25.getD i21 []).getD i25 default))<((s25.getD i23 []).getD i25 default))))) then must (0≤((i23:Int):Int)∧((i23:Int):Int)<((s25.length:Nat):Int)) <| must (inI (((s25.getD i23 []).getD i21 default)+((s25.getD i21 []).getD i25 default))) <| must (0≤((i25:Int):Int)∧((i25:Int):Int)<(((s25.getD i23 []).length:Nat):Int)) <| k25 (s25.set i23 ((s25.getD i23 []).set i25 (((s25.getD i23 []).getD i21 default)+((s25.getD i21 []).getD i25 default)))) else k25 s25)) (fun (s25:(List (List Int)))=>k23 s25) ((p0.Places).toNat) 0 s23)) (fun (s23:(List (List Int)))=>k21 s23) ((p0.Places).toNat) 0 s21))) ex n (i+1)) (by omega:i<p0.Places.toNat) p0.Places.toNat 0 (by omega) s ⟨h1,fun p' q' hp' hq'=>by rw [h2 p' q' hp' hq',if_neg (by omega)]⟩
  obtain ⟨s2,h5,h6,h7⟩:=ih (i+1) (by omega) s' h3.shp (fun p q hp hq=>by rw [h3.val p q hp hq,if_pos (by omega)];rfl)
  refine ⟨s2,h5,h6,?_⟩
  rw [zaz (by omega)]
  exact h4.trans h7
theorem zpf {p0:Chart} {T:Nat→Int} (NT:Net p0 T) (p1:Int→Option Int) (hk:∀ i:Nat,i<p0.Ways.length→p1 i=some (T i)) {R:Type} (ex:List (List Int)→Option R):∀ (n i:Nat),i+n=p0.Ways.length→∀ s,Shp p0.Places.toNat s→(∀ p q,p<p0.Places.toNat→q<p0.Places.toNat→mat s p q=mw p0 T i p q) →
 ∃ s',Shp p0.Places.toNat s'∧(∀ p q,p<p0.Places.toNat→q<p0.Places.toNat→mat s' p q=mw p0 T p0.Ways.length p q)∧zah ((fun i10 (s10:(List (List Int))) k10=>must (0≤((p0.Ways.getD i10 default).From:Int)∧((p0.Ways.getD i10 default).From:Int)<((s10.length:Nat):Int)) <| must (0≤((p0.Ways.getD i10 default).To:Int)∧((p0.Ways.getD i10 default).To:Int)<(((s10.getD ((p0.Ways.getD i10 default).From).toNat []).length:Nat):Int)) <| zar ((bif (((decide ((p0.Ways.getD i10 default).Every=0)) && ((decide ((p0.Ways.getD i10 default).Open.Lo=0)) && (decide ((p0.Ways.getD i10 default).Open.Hi=1439)))) && !(decide (((s10.getD ((p0.Ways.getD i10 default).From).toNat []).getD ((p0.Ways.getD i10 default).To).toNat default)<0))) then p1 (i10:Int) else some default)) fun y14=>(bif (((decide ((p0.Ways.getD i10 default).Every=0)) && ((decide ((p0.Ways.getD i10 default).Open.Lo=0)) && (decide ((p0.Ways.getD i10 default).Open.Hi=1439)))) && ((decide (((s10.getD ((p0.Ways.getD i10 default).From).toNat []).getD ((p0.Ways.getD i10 default).To).toNat default)<0)) || (decide (y14<((s10.getD ((p0.Ways.getD i10 default).From).toNat []).getD ((p0.Ways.getD i10 default).To).toNat default))))) then must (0≤((p0.Ways.getD i10 default).From:Int)∧((p0.Ways.getD i10 default).From:Int)<((s10.length:Nat):Int)) <| zar (p1 (i10:Int)) fun y18=>must (0≤((p0.Ways.getD i10 default).To:Int)∧((p0.Ways.getD i10 default).To:Int)<(((s10.getD ((p0.Ways.getD i10 default).From).toNat []).length:Nat):Int)) <| k10 (s10.set ((p0.Ways.getD i10 default).From).toNat ((s10.getD ((p0.Ways.getD i10 default).From).toNat []).set ((p0.Ways.getD i10 default).To).toNat y18)) else k10 s10))) ex n i s=ex s':=by
 intro n
 induction n with
 | zero=>intro i hi s h1 h2;have e:i=p0.Ways.length:=(by omega);subst e;exact ⟨s,h1,h2,rfl⟩
 | succ n ih=>
  intro i hi s h1 h2
  have hlt:i<p0.Ways.length:=by omega
  have J:=zco.1 (zca NT.val hlt)
  have hf:(way p0 i).From.toNat<p0.Places.toNat:=by omega
  have ht:(way p0 i).To.toNat<p0.Places.toNat:=by omega
  have hl:=h1.len
  have r1:=h1.row _ hf
  rw [zbA]
  have ew:p0.Ways.getD i default=way p0 i:=rfl
  have em:(s.getD (way p0 i).From.toNat []).getD (way p0 i).To.toNat default=mw p0 T i (way p0 i).From.toNat (way p0 i).To.toNat:=h2 _ _ hf ht
  have ea:(decide ((way p0 i).Every=0) && (decide ((way p0 i).Open.Lo=0) && decide ((way p0 i).Open.Hi=1439)))=alw (way p0 i):=rfl
  rw [ew,em,ea,zaz (by omega),zaz (by omega),hk i hlt]
  have same:∀ s2:List (List Int),s2=s→¬ (alw (way p0 i)=true∧(mw p0 T i (way p0 i).From.toNat (way p0 i).To.toNat<0∨T i<mw p0 T i (way p0 i).From.toNat (way p0 i).To.toNat))→∃ s',Shp p0.Places.toNat s'∧(∀ p q,p<p0.Places.toNat→q<p0.Places.toNat→mat s' p q=mw p0 T p0.Ways.length p q)∧zah ((fun i10 (s10:(List (List Int))) k10=>must (0≤((p0.Ways.getD i10 default).From:Int)∧((p0.Ways.getD i10 default).From:Int)<((s10.length:Nat):Int)) <| must (0≤((p0.Ways.getD i10 default).To:Int)∧((p0.Ways.getD i10 default).To:Int)<(((s10.getD ((p0.Ways.getD i10 default).From).toNat []).length:Nat):Int)) <| zar ((bif (((decide ((p0.Ways.getD i10 default).Every=0)) && ((decide ((p0.Ways.getD i10 default).Open.Lo=0)) && (decide ((p0.Ways.getD i10 default).Open.Hi=1439)))) && !(decide (((s10.getD ((p0.Ways.getD i10 default).From).toNat []).getD ((p0.Ways.getD i10 default).To).toNat default)<0))) then p1 (i10:Int) else some default)) fun y14=>(bif (((decide ((p0.Ways.getD i10 default).Every=0)) && ((decide ((p0.Ways.getD i10 default).Open.Lo=0)) && (decide ((p0.Ways.getD i10 default).Open.Hi=1439)))) && ((decide (((s10.getD ((p0.Ways.getD i10 default).From).toNat []).getD ((p0.Ways.getD i10 default).To).toNat default)<0)) || (decide (y14<((s10.getD ((p0.Ways.getD i10 default).From).toNat []).getD ((p0.Ways.getD i10 default).To).toNat default))))) then must (0≤((p0.Ways.getD i10 default).From:Int)∧((p0.Ways.getD i10 default).From:Int)<((s10.length:Nat):Int)) <| zar (p1 (i10:Int)) fun y18=>must (0≤((p0.Ways.getD i10 default).To:Int)∧((p0.Ways.getD i10 default).To:Int)<(((s10.getD ((p0.Ways.getD i10 default).From).toNat []).length:Nat):Int)) <| k10 (s10.set ((p0.Ways.getD i10 default).From).toNat ((s10.getD ((p0.Ways.getD i10 default).From).toNat []).set ((p0.Ways.getD i10 default).To).toNat y18)) else k10 s10))) ex n (i+1) s2=ex s':=by
   rintro _ rfl hno
   refine ih (i+1) (by omega) _ h1 (fun p q hp hq=>?_)
   rw [h2 p q hp hq]
   show mw p0 T i p q=if _ then _ else _
   rw [if_neg]
   rintro ⟨rfl,rfl,h3,h4⟩
   exact hno ⟨h3,h4⟩
  cases hal:alw (way p0 i) with
  | false=>
   rw [Bool.false_and,cond_false,zaM,Bool.false_and,cond_false]
   exact same s rfl (fun h=>by rw [hal] at h;cases h.1)
  | true=>
   rw [Bool.true_and]
   by_cases hn:mw p0 T i (way p0 i).From.toNat (way p0 i).To.toNat<0
   · rw [decide_eq_true hn,Bool.not_true,cond_false,zaM,Bool.true_or,Bool.true_and,cond_true,zaz (by omega),zaM,zaz (by omega)]
     obtain ⟨t1,t2⟩:=zkT h1 hf ht (T i)
     refine ih (i+1) (by omega) _ t1 (fun p q hp hq=>?_)
     rw [t2 p q]
     show _=if _ then _ else _
     by_cases e:p=(way p0 i).From.toNat∧q=(way p0 i).To.toNat
     · obtain ⟨rfl,rfl⟩:=e
       rw [if_pos ⟨rfl,rfl⟩,if_pos ⟨rfl,rfl,hal,.inl hn⟩]
     · rw [if_neg e,if_neg (fun x=>e ⟨x.1,x.2.1⟩),h2 p q hp hq]
   · rw [decide_eq_false hn,Bool.not_false,cond_true,zaM,Bool.false_or,Bool.true_and]
     by_cases h3:T i<mw p0 T i (way p0 i).From.toNat (way p0 i).To.toNat
     · rw [decide_eq_true h3,cond_true,zaz (by omega),zaM,zaz (by omega)]
       obtain ⟨t1,t2⟩:=zkT h1 hf ht (T i)
       refine ih (i+1) (by omega) _ t1 (fun p q hp hq=>?_)
       rw [t2 p q]
       show _=if _ then _ else _
       by_cases e:p=(way p0 i).From.toNat∧q=(way p0 i).To.toNat
       · obtain ⟨rfl,rfl⟩:=e
         rw [if_pos ⟨rfl,rfl⟩,if_pos ⟨rfl,rfl,hal,.inr h3⟩]
       · rw [if_neg e,if_neg (fun x=>e ⟨x.1,x.2.1⟩),h2 p q hp hq]
     · rw [decide_eq_false h3,cond_false]
       exact same s rfl (fun h=>by rcases h.2 with h|h;exact hn h;exact h3 h)
theorem zpj {p0:Chart} (hP:1≤p0.Places∧p0.Places≤12) {fuel:Nat} (hf:41≤fuel) {R:Type} (ex:List (List Int)→Option R):∀ (n i:Nat),i+n=p0.Places.toNat→∀ s:List (List Int),s.length=p0.Places.toNat→(∀ p,p<p0.Places.toNat→(p<i→(s.getD p []).length=p0.Places.toNat∧∀ q,q<p0.Places.toNat→mat s p q=m0 p q)∧(i≤p→s.getD p []=[])) →
 ∃ s',Shp p0.Places.toNat s'∧(∀ p q,p<p0.Places.toNat→q<p0.Places.toNat→mat s' p q=m0 p q)∧zah ((fun i2 (s2:(List (List Int))) k2=>zar (zaY fuel ([(-1)]:List Int) p0.Places) fun y4=>must (0≤((i2:Int):Int)∧((i2:Int):Int)<((s2.length:Nat):Int)) <| must ((s2.getD i2 []).length<y4.length) <| must (0≤((i2:Int):Int)∧((i2:Int):Int)<(((s2.set i2 y4).length:Nat):Int)) <| must (0≤((i2:Int):Int)∧((i2:Int):Int)<((((s2.set i2 y4).getD i2 []).length:Nat):Int)) <| k2 ((s2.set i2 y4).set i2 (((s2.set i2 y4).getD i2 []).set i2 0)))) ex n i s=ex s':=by
 intro n
 induction n with
 | zero=>intro i hi s h1 h2;exact ⟨s,⟨h1,fun p hp=>((h2 p hp).1 (by omega)).1⟩,fun p q hp hq=>((h2 p hp).1 (by omega)).2 q hq,rfl⟩
 | succ n ih=>
  intro i hi s h1 h2
  have hlt:i<p0.Places.toNat:=by omega
  rw [zbA]
  generalize hz:zah _ ex n (i+1)=Z
  have hrep:=zmV hf p0.Places.toNat (by omega)
  rw [show ((p0.Places.toNat:Nat):Int)=p0.Places by omega] at hrep
  have g1:(s.set i (List.replicate p0.Places.toNat (-1))).getD i []=List.replicate p0.Places.toNat (-1):=by rw [zef _ _ _ _ _ (by omega),if_pos rfl]
  rw [hrep,zaM,zaz (by omega),zaz (by rw [(h2 i hlt).2 (Nat.le_refl _),List.length_replicate];show 0<_;omega),zaz (by rw [List.length_set];omega),g1,zaz (by rw [List.length_replicate];omega)]
  subst hz
  refine ih (i+1) (by omega) ((s.set i (List.replicate p0.Places.toNat (-1))).set i ((List.replicate p0.Places.toNat (-1:Int)).set i 0)) (by rw [List.length_set,List.length_set];exact h1) (fun p hp=>?_)
  have g2:((s.set i (List.replicate p0.Places.toNat (-1))).set i ((List.replicate p0.Places.toNat (-1:Int)).set i 0)).getD p []=if p=i then (List.replicate p0.Places.toNat (-1:Int)).set i 0 else s.getD p []:=by
   rw [zef _ _ _ _ _ (by rw [List.length_set];omega)]
   split
   · rfl
   · rename_i e;rw [zef _ _ _ _ _ (by omega),if_neg e]
  refine ⟨fun hp2=>?_,fun hp2=>?_⟩
  · by_cases e:p=i
    · subst e
      refine ⟨by rw [g2,if_pos rfl,List.length_set,List.length_replicate],fun q hq=>?_⟩
      unfold mat
      rw [g2,if_pos rfl,zeU _ _ _ _ (by rw [List.length_replicate];omega)]
      unfold m0
      by_cases e2:q=p
      · rw [if_pos e2,if_pos e2.symm]
      · rw [if_neg e2,if_neg (fun x=>e2 x.symm),List.getD_eq_getElem?_getD,List.getElem?_replicate,if_pos hq];rfl
    · obtain ⟨a1,a2⟩:=(h2 p hp).1 (by omega)
      refine ⟨by rw [g2,if_neg e];exact a1,fun q hq=>?_⟩
      have:=a2 q hq
      unfold mat at this ⊢
      rw [g2,if_neg e];exact this
  · rw [g2,if_neg (by omega)]
    exact (h2 p hp).2 (by omega)
theorem zmQ {fuel:Nat} (hf:41≤fuel) {c:Chart} {T:Nat→Int} (N:Net c T) (p1:Int→Option Int) (hk:∀ i:Nat,i<c.Ways.length→p1 i=some (T i)) :
 ∃ s,zdx fuel c p1=some s∧Shp c.Places.toNat s∧∀ p q,p<c.Places.toNat→q<c.Places.toNat→mat s p q=dst c T p q:=by
 have hv:=zdi.1 N.val
 unfold zdx
 rw [zaz ⟨by omega,by omega,zd7 (by omega) (by omega)⟩,zaz (by rw [List.length_replicate];omega),List.length_replicate]
 obtain ⟨s1,a1,a2,a3⟩:=zpj (p0:=c) hv.1 hf (R:=List (List Int)) (fun (s2:(List (List Int)))=>(zah (fun i10 (s10:(List (List Int))) k10=>must (0≤((c.Ways.getD i10 default).From:Int)∧((c.Ways.getD i10 default).From:Int)<((s10.length:Nat):Int)) <| must (0≤((c.Ways.getD i10 default).To:Int)∧((c.Ways.getD i10 default).To:Int)<(((s10.getD ((c.Ways.getD i10 default).From).toNat []).length:Nat):Int)) <| zar ((bif (((decide ((c.Ways.getD i10 default).Every=0)) && ((decide ((c.Ways.getD i10 default).Open.Lo=0)) && (decide ((c.Ways.getD i10 default).Open.Hi=1439)))) && !(decide (((s10.getD ((c.Ways.getD i10 default).From).toNat []).getD ((c.Ways.getD i10 default).To).toNat default)<0))) then p1 (i10:Int) else some default)) fun y14=>(bif (((decide ((c.Ways.getD i10 default).Every=0)) && ((decide ((c.Ways.getD i10 default).Open.Lo=0)) && (decide ((c.Ways.getD i10 default).Open.Hi=1439)))) && ((decide (((s10.getD ((c.Ways.getD i10 default).From).toNat []).getD ((c.Ways.getD i10 default).To).toNat default)<0)) || (decide (y14<((s10.getD ((c.Ways.getD i10 default).From).toNat []).getD ((c.Ways.getD i10 default).To).toNat default))))) then must (0≤((c.Ways.getD i10 default).From:Int)∧((c.Ways.getD i10 default).From:Int)<((s10.length:Nat):Int)) <| zar (p1 (i10:Int)) fun y18=>must (0≤((c.Ways.getD i10 default).To:Int)∧((c.Ways.getD i10 default).To:Int)<(((s10.getD ((c.Ways.getD i10 default).From).toNat []).length:Nat):Int)) <| k10 (s10.set ((c.Ways.getD i10 default).From).toNat ((s10.getD ((c.Ways.getD i10 default).From).toNat []).set ((c.Ways.getD i10 default).To).toNat y18)) else k10 s10)) (fun (s10:(List (List Int)))=>must ((c.Places).toNat≤9223372036854775807) <| (zah (fun i21 (s21:(List (List Int))) k21=>must ((c.Places).toNat≤9223372036854775807) <| (zah (fun i23 (s23:(List (List Int))) k23=>must ((c.Places).toNat≤9223372036854775807) <| (zah (fun i25 (s25:(List (List Int))) k25=>must (0≤((i23:Int):Int)∧((i23:Int):Int)<((s25.length:Nat):Int)) <| must (0≤((i21:Int):Int)∧((i21:Int):Int)<(((s25.getD i23 []).length:Nat):Int)) <| must (0≤((i21:Int):Int)∧((i21:Int):Int)<((s25.length:Nat):Int)) <| must (0≤((i25:Int):Int)∧((i25:Int):Int)<(((s25.getD i21 []).length:Nat):Int)) <| must ((((decide (0≤((s25.getD i23 []).getD i21 default))) && (decide (0≤((s25.getD i21 []).getD i25 default))))=true→(0≤((i23:Int):Int)∧((i23:Int):Int)<((s25.length:Nat):Int)))) <| must ((((decide (0≤((s25.getD i23 []).getD i21 default))) && (decide (0≤((s25.getD i21 []).getD i25 default))))=true→(0≤((i25:Int):Int)∧((i25:Int):Int)<(((s25.getD i23 []).length:Nat):Int)))) <| must (((((decide (0≤((s25.getD i23 []).getD i21 default))) && (decide (0≤((s25.getD i21 []).getD i25 default)))) && !(decide (((s25.getD i23 []).getD i25 default)<0)))=true→(inI (((s25.getD i23 []).getD i21 default)+((s25.getD i21 []).getD i25 default))))) <| must (((((decide (0≤((s25.getD i23 []).getD i21 default))) && (decide (0≤((s25.getD i21 []).getD i25 default)))) && !(decide (((s25.getD i23 []).getD i25 default)<0)))=true→(0≤((i23:Int):Int)∧((i23:Int):Int)<((s25.length:Nat):Int)))) <| must (((((decide (0≤((s25.getD i23 []).getD i21 default))) && (decide (0≤((s25.getD i21 []).getD i25 default)))) && !(decide (((s25.getD i23 []).getD i25 default)<0)))=true→(0≤((i25:Int):Int)∧((i25:Int):Int)<(((s25.getD i23 []).length:Nat):Int)))) <| (bif (((decide (0≤((s25.getD i23 []).getD i21 default))) && (decide (0≤((s25.getD i21 []).getD i25 default)))) && ((decide (((s25.getD i23 []).getD i25 default)<0)) || (decide ((((s25.getD i23 []).getD i21 default)+((s25.getD i21 []).getD i25 default))<((s25.getD i23 []).getD i25 default))))) then must (0≤((i23:Int):Int)∧((i23:Int):Int)<((s25.length:Nat):Int)) <| must (inI (((s25.getD i23 []).getD i21 default)+((s25.getD i21 []).getD i25 default))) <| must (0≤((i25:Int):Int)∧((i25:Int):Int)<(((s25.getD i23 []).length:Nat):Int)) <| k25 (s25.set i23 ((s25.getD i23 []).set i25 (((s25.getD i23 []).getD i21 default)+((s25.getD i21 []).getD i25 default)))) else k25 s25)) (fun (s25:(List (List Int)))=>k23 s25) ((c.Places).toNat) 0 s23)) (fun (s23:(List (List Int)))=>k21 s23) ((c.Places).toNat) 0 s21)) (fun (s21:(List (List Int)))=>some s21) ((c.Places).toNat) 0 s10)) c.Ways.length 0 s2)) c.Places.toNat 0 (by omega) (List.replicate c.Places.toNat []) (by simp) (fun p hp=>⟨fun h=>by omega,fun _=>by rw [List.getD_eq_getElem?_getD,List.getElem?_replicate,if_pos hp];rfl⟩)
 obtain ⟨s2,b1,b2,b3⟩:=zpf N p1 hk (R:=List (List Int)) (fun (s10:(List (List Int)))=>must ((c.Places).toNat≤9223372036854775807) <| (zah (fun i21 (s21:(List (List Int))) k21=>must ((c.Places).toNat≤9223372036854775807) <| (zah (fun i23 (s23:(List (List Int))) k23=>must ((c.Places).toNat≤9223372036854775807) <| (zah (fun i25 (s25:(List (List Int))) k25=>must (0≤((i23:Int):Int)∧((i23:Int):Int)<((s25.length:Nat):Int)) <| must (0≤((i21:Int):Int)∧((i21:Int):Int)<(((s25.getD i23 []).length:Nat):Int)) <| must (0≤((i21:Int):Int)∧((i21:Int):Int)<((s25.length:Nat):Int)) <| must (0≤((i25:Int):Int)∧((i25:Int):Int)<(((s25.getD i21 []).length:Nat):Int)) <| must ((((decide (0≤((s25.getD i23 []).getD i21 default))) && (decide (0≤((s25.getD i21 []).getD i25 default))))=true→(0≤((i23:Int):Int)∧((i23:Int):Int)<((s25.length:Nat):Int)))) <| must ((((decide (0≤((s25.getD i23 []).getD i21 default))) && (decide (0≤((s25.getD i21 []).getD i25 default))))=true→(0≤((i25:Int):Int)∧((i25:Int):Int)<(((s25.getD i23 []).length:Nat):Int)))) <| must (((((decide (0≤((s25.getD i23 []).getD i21 default))) && (decide (0≤((s25.getD i21 []).getD i25 default)))) && !(decide (((s25.getD i23 []).getD i25 default)<0)))=true→(inI (((s25.getD i23 []).getD i21 default)+((s25.getD i21 []).getD i25 default))))) <| must (((((decide (0≤((s25.getD i23 []).getD i21 default))) && (decide (0≤((s25.getD i21 []).getD i25 default)))) && !(decide (((s25.getD i23 []).getD i25 default)<0)))=true→(0≤((i23:Int):Int)∧((i23:Int):Int)<((s25.length:Nat):Int)))) <| must (((((decide (0≤((s25.getD i23 []).getD i21 default))) && (decide (0≤((s25.getD i21 []).getD i25 default)))) && !(decide (((s25.getD i23 []).getD i25 default)<0)))=true→(0≤((i25:Int):Int)∧((i25:Int):Int)<(((s25.getD i23 []).length:Nat):Int)))) <| (bif (((decide (0≤((s25.getD i23 []).getD i21 default))) && (decide (0≤((s25.getD i21 []).getD i25 default)))) && ((decide (((s25.getD i23 []).getD i25 default)<0)) || (decide ((((s25.getD i23 []).getD i21 default)+((s25.getD i21 []).getD i25 default))<((s25.getD i23 []).getD i25 default))))) then must (0≤((i23:Int):Int)∧((i23:Int):Int)<((s25.length:Nat):Int)) <| must (inI (((s25.getD i23 []).getD i21 default)+((s25.getD i21 []).getD i25 default))) <| must (0≤((i25:Int):Int)∧((i25:Int):Int)<(((s25.getD i23 []).length:Nat):Int)) <| k25 (s25.set i23 ((s25.getD i23 []).set i25 (((s25.getD i23 []).getD i21 default)+((s25.getD i21 []).getD i25 default)))) else k25 s25)) (fun (s25:(List (List Int)))=>k23 s25) ((c.Places).toNat) 0 s23)) (fun (s23:(List (List Int)))=>k21 s23) ((c.Places).toNat) 0 s21)) (fun (s21:(List (List Int)))=>some s21) ((c.Places).toNat) 0 s10)) c.Ways.length 0 (by omega) s1 a1 a2
 obtain ⟨s3,c1,c2,c3⟩:=zpi (p0:=c) rfl (by omega) (zhA N _ (Nat.le_refl _)) (R:=List (List Int)) (fun (s21:(List (List Int)))=>some s21) c.Places.toNat 0 (by omega) s2 b1 b2
 exact ⟨s3,a3.trans (b3.trans ((zaz (by omega) _).trans c3)),c1,c2⟩
end Go.Sp
end
/- Plain laws: Matrix, as the program and as the reference find it. No program in sight. -/
section
set_option linter.all false
namespace Go.Sp
open Go.Av
set_option maxRecDepth 100000
theorem ziv {T:Type} (l:List T) (x d:T) (i:Nat):(l++[x]).getD i d=if i=l.length then x else l.getD i d:=by
 rw [List.getD_eq_getElem?_getD,List.getD_eq_getElem?_getD,List.getElem?_append]
 by_cases h:i<l.length
 · rw [if_pos h,if_neg (by omega)]
 · rw [if_neg h]
   by_cases e:i=l.length
   · rw [if_pos e,e,Nat.sub_self];rfl
   · rw [if_neg e,List.getElem?_eq_none (by simp;omega),List.getElem?_eq_none (by omega)]
def lo (c:Chart):Mx:=dst c (boT c false)
def hi (c:Chart):Mx:=dst c (boT c true)
def MatP (c:Chart) (x:List (List Range)×Int):Prop:=
 (valid c=false∧x=([],31))∨(valid c=true∧(∃ p q,p<c.Places.toNat∧q<c.Places.toNat∧(hi c p q<0∨600<hi c p q))∧x=([],35)) ∨
 (valid c=true∧(∀ p q,p<c.Places.toNat→q<c.Places.toNat→0≤hi c p q∧hi c p q≤600)∧x.2=0∧Shp c.Places.toNat x.1∧∀ p q,p<c.Places.toNat→q<c.Places.toNat→mat x.1 p q=⟨lo c p q,hi c p q⟩)
theorem znc {fuel:Nat} (hf:41≤fuel) (c:Chart):Wp (zcm fuel c) (MatP c):=by
 unfold zcm
 refine zaq (zdZ c) ?_
 cases hv:valid c with
 | false=>exact zbU rfl (zap (.inl ⟨hv,rfl⟩))
 | true=>
  refine zay rfl ?_
  obtain ⟨⟨v1,v2⟩,_⟩:=zdi.1 hv
  obtain ⟨y4,e4,s4,m4⟩:=zmQ hf (zlJ hv false) (fun x0=>zb7 x0 c) (zne c)
  obtain ⟨y6,e6,s6,m6⟩:=zmQ hf (zlJ hv true) (fun x0=>zcl x0 c) (zpv c)
  refine zaq e4 (zaq e6 (zae (by omega) ?_))
  have l4:=s4.len
  have l6:=s6.len
  refine zaV (fun i s=>s.length=i∧∀ p,p<i→(s.getD p []).length=c.Places.toNat∧∀ q,q<c.Places.toNat→(0≤hi c p q∧hi c p q≤600)∧mat s p q=⟨lo c p q,hi c p q⟩) ⟨rfl,fun p hp=>by omega⟩ ?_ ?_
  · intro i s K hi' hI hK
    have r4:=s4.row i hi'
    have r6:=s6.row i hi'
    refine zae (by omega) ?_
    refine zaV (fun j r=>r.length=j∧∀ q,q<j→(0≤hi c i q∧hi c i q≤600)∧r.getD q default=⟨lo c i q,hi c i q⟩) ⟨rfl,fun p hp=>by omega⟩ ?_ ?_
    · intro j r K2 hj hJ hK2
      have a4:(y4.getD i default).getD j default=lo c i j:=m4 i j hi' hj
      have a6:(y6.getD i default).getD j default=hi c i j:=m6 i j hi' hj
      have b6:((y6.getD i default).length:Nat)=c.Places.toNat:=r6
      have b4:((y4.getD i default).length:Nat)=c.Places.toNat:=r4
      rw [a6,a4,b6,b4,l6,l4]
      refine zae (by omega) (zae (by omega) (zae (fun _=>by omega) (zae (fun _=>by omega) ?_)))
      refine zbS (fun h=>?_) (fun h=>?_)
      · simp only [Bool.or_eq_true,decide_eq_true_eq] at h
        exact zap (.inr (.inl ⟨hv,⟨i,j,hi',hj,h⟩,rfl⟩))
      · simp only [Bool.or_eq_false_iff,decide_eq_false_iff_not] at h
        refine zae (by omega) (zae (by omega) (zae (by omega) (zae (by omega) (zae ?_ ?_))))
        · rw [List.length_append];exact zd7 (by simp;omega) (by omega)
        · refine hK2 _ ⟨by rw [List.length_append];simp;omega,fun q hq=>?_⟩
          rw [ziv,hJ.1]
          by_cases e:q=j
          · subst e;rw [if_pos rfl];exact ⟨by omega,rfl⟩
          · rw [if_neg e];exact hJ.2 q (by omega)
    · intro r hJ
      refine zae ?_ (hK _ ⟨by rw [List.length_append];simp;omega,fun p hp=>?_⟩)
      · rw [List.length_append];exact zd7 (by simp;omega) (by omega)
      · unfold mat
        rw [ziv,hI.1]
        by_cases e:p=i
        · subst e;rw [if_pos rfl];exact hJ
        · rw [if_neg e];exact hI.2 p (by omega)
  · intro s hI
    exact zap (.inr (.inr ⟨hv,fun p q hp hq=>((hI.2 p hp).2 q hq).1,rfl,⟨hI.1,fun p hp=>(hI.2 p hp).1⟩,fun p q hp hq=>((hI.2 p hp).2 q hq).2⟩))
def cap (x:Int):Int:=if x<0 then 601 else min x 601
def capR (L H:Mx) (p q:Nat):Range:=⟨cap (L p q),cap (H p q)⟩
theorem mw_hit {c:Chart} {T:Nat→Int} {n:Nat} (h:alw (way c n)=true):mw c T (n+1) (way c n).From.toNat (way c n).To.toNat=if mw c T n (way c n).From.toNat (way c n).To.toNat<0∨T n<mw c T n (way c n).From.toNat (way c n).To.toNat then T n else mw c T n (way c n).From.toNat (way c n).To.toNat:=by
 show (if _ then _ else _)=_
 simp only [h,true_and]
structure MidR (P:Nat) (L H:Mx) (k p i:Nat) (s:List (List Range)):Prop where
 shp:Shp P s
 val:∀ p' q',p'<P→q'<P→mat s p' q'=if p'<p∨(p'=p∧q'<i) then ⟨cap (upd (L p' q') (L p' k) (L k q')),cap (upd (H p' q') (H p' k) (H k q'))⟩ else capR L H p' q'
end Go.Sp
end
/- Plain laws: walks over ways that are always open; the matrix is their least sum. No program in sight. -/
section
set_option linter.all false
namespace Go.Sp
open Go.Av
set_option maxRecDepth 100000
inductive Wk (c:Chart) (T:Nat→Int) (s:Nat):Nat→Int→Prop
 | nil:Wk c T s s 0
 | snoc (p:Nat) (x:Int) (i:Nat) (h:Wk c T s p x) (hi:i<c.Ways.length) (ha:alw (way c i)=true) (hf:(way c i).From.toNat=p):Wk c T s (way c i).To.toNat (x+T i)
theorem Wk.cat {c:Chart} {T:Nat→Int} {s k d:Nat} {x y:Int} (h:Wk c T s k x) (h2:Wk c T k d y):Wk c T s d (x+y):=by
 induction h2 with
 | nil=>rw [Int.add_zero];exact h
 | snoc p x i h hi ha hf ih=>rw [← Int.add_assoc];exact .snoc p _ i ih hi ha hf
theorem wk_mw {c:Chart} {T:Nat→Int}:∀ n,n≤c.Ways.length→∀ p q,0≤mw c T n p q→Wk c T p q (mw c T n p q)
 | 0,_,p,q,h=>by
  unfold mw m0 at h ⊢
  split at h
  · rename_i e;subst e;rw [if_pos rfl];exact .nil
  · omega
 | n+1,hn,p,q,h=>by
  unfold mw at h ⊢
  split at h
  · rename_i e
    rw [if_pos e]
    obtain ⟨rfl,rfl,e3,_⟩:=e
    have:=Wk.snoc (T:=T) (s:=(way c n).From.toNat) _ 0 n .nil (by omega) e3 rfl
    rw [Int.zero_add] at this;exact this
  · rename_i e
    rw [if_neg e]
    exact wk_mw n (by omega) p q h
theorem zn3 {c:Chart} {T:Nat→Int} {M:Mx} (hM:∀ p q,0≤M p q→Wk c T p q (M p q)):∀ k p q,0≤fw M k p q→Wk c T p q (fw M k p q)
 | 0,p,q,h=>hM p q h
 | k+1,p,q,h=>by
  unfold fw upd at h ⊢
  split at h
  · rename_i e
    rw [if_pos e]
    exact (zn3 hM k p k e.1).cat (zn3 hM k k q e.2.1)
  · rename_i e
    rw [if_neg e]
    exact zn3 hM k p q h
theorem zlW {P:Nat} {M:Mx} (N:Nice P 600 M):∀ k,k≤P→∀ i,i<k→∀ a d,a<P→d<P→0≤fw M k a i→0≤fw M k i d→0≤fw M k a d∧fw M k a d≤fw M k a i+fw M k i d
 | 0,_,i,hi,_,_,_,_,_,_=>by omega
 | k+1,hk,i,hi,a,d,ha,hd,h1,h2=>by
  have Nk:=ziU N k (by omega)
  have kk:=Nk.dg k (by omega)
  have g1:=Nk.ge a d ha hd
  have g2:=Nk.ge a k ha (by omega)
  have g3:=Nk.ge k d (by omega) hd
  unfold fw upd at h1 h2 ⊢
  by_cases e:i=k
  · subst e
    rw [kk] at h1 h2 ⊢
    have e1:∀ z:Int,(if 0≤z∧(0:Int)≤0∧(z<0∨z+0<z) then z+0 else z)=z:=fun z=>if_neg (by omega)
    have e2:∀ z:Int,(if (0:Int)≤0∧0≤z∧(z<0∨0+z<z) then 0+z else z)=z:=fun z=>if_neg (by omega)
    rw [e1] at h1 ⊢
    rw [e2] at h2 ⊢
    split <;> omega
  · have g4:=Nk.ge a i ha (by omega)
    have g5:=Nk.ge i d (by omega) hd
    have g6:=Nk.ge k i (by omega) (by omega)
    have g7:=Nk.ge i k (by omega) (by omega)
    have t1:=zlW N k (by omega) i (by omega) a d ha hd
    have t2:=zlW N k (by omega) i (by omega) a k ha (by omega)
    have t3:=zlW N k (by omega) i (by omega) k d (by omega) hd
    generalize fw M k a d=x at *
    generalize fw M k a k=x1 at *
    generalize fw M k k d=x2 at *
    generalize fw M k a i=x3 at *
    generalize fw M k i d=x4 at *
    generalize fw M k k i=x5 at *
    generalize fw M k i k=x6 at *
    split at h1 <;> split at h2
    · rename_i e1 e2
      rw [if_pos e1,if_pos e2]
      split <;> omega
    · rename_i e1 e2
      rw [if_pos e1,if_neg e2]
      have:=t3 e1.2.1 h2
      split <;> omega
    · rename_i e1 e2
      rw [if_neg e1,if_pos e2]
      have:=t2 h1 e2.1
      split <;> omega
    · rename_i e1 e2
      rw [if_neg e1,if_neg e2]
      have:=t1 h1 h2
      split <;> omega
theorem zkP {c:Chart} {T:Nat→Int} (N:Net c T):∀ n,n≤c.Ways.length→∀ i,i<n→alw (way c i)=true→0≤mw c T n (way c i).From.toNat (way c i).To.toNat∧mw c T n (way c i).From.toNat (way c i).To.toNat≤T i
 | 0,_,i,hi,_=>by omega
 | n+1,hn,i,hi,ha=>by
  have hT:=N.len n (by omega)
  by_cases e:i=n
  · subst e
    have h0:=(zhA N i (by omega)).ge (way c i).From.toNat (way c i).To.toNat (by have:=zco.1 (zca N.val (show i<c.Ways.length by omega));omega) (by have:=zco.1 (zca N.val (show i<c.Ways.length by omega));omega)
    rw [mw_hit ha]
    split <;> omega
  · have:=zkP N n (by omega) i (by omega) ha
    unfold mw
    split <;> omega
theorem zpB {M:Mx}:∀ k p q,0≤M p q→0≤fw M k p q∧fw M k p q≤M p q
 | 0,p,q,h=>⟨h,Int.le_refl _⟩
 | k+1,p,q,h=>by
  have:=zpB k p q h
  unfold fw upd
  split <;> omega
theorem zo8 {c:Chart} {T:Nat→Int} (p q:Nat) (h:0≤dst c T p q):Wk c T p q (dst c T p q):=
 zn3 (fun p q h=>wk_mw _ (Nat.le_refl _) p q h) _ p q h
theorem zle {c:Chart} {T:Nat→Int} (N:Net c T) {a b d:Nat} (ha:a<c.Places.toNat) (hb:b<c.Places.toNat) (hd:d<c.Places.toNat) (h1:0≤dst c T a b) (h2:0≤dst c T b d):0≤dst c T a d∧dst c T a d≤dst c T a b+dst c T b d:=
 zlW (zhA N _ (Nat.le_refl _)) _ (Nat.le_refl _) b hb a d ha hd h1 h2
theorem zhf {c:Chart} {T:Nat→Int} (N:Net c T) {a:Nat} (ha:a<c.Places.toNat):dst c T a a=0:=(ziU (zhA N _ (Nat.le_refl _)) _ (Nat.le_refl _)).dg a ha
theorem Wk.le {c:Chart} {T:Nat→Int} (N:Net c T) {s p:Nat} {x:Int} (hs:s<c.Places.toNat) (h:Wk c T s p x):p<c.Places.toNat∧0≤dst c T s p∧dst c T s p≤x:=by
 induction h with
 | nil=>rw [zhf N hs];exact ⟨hs,Int.le_refl _,Int.le_refl _⟩
 | snoc p x i h hi ha hf ih=>
  obtain ⟨h1,h2,h3⟩:=ih
  have hj:=zco.1 (zca N.val hi)
  have ht:(way c i).To.toNat<c.Places.toNat:=by omega
  obtain ⟨e1,e2⟩:=zkP N _ (Nat.le_refl _) i hi ha
  have:=zpB (M:=mw c T c.Ways.length) c.Places.toNat _ _ e1
  rw [hf] at this e2
  have t:=zle N hs h1 ht h2 this.1
  refine ⟨ht,t.1,?_⟩
  have:=this.2
  unfold dst at t h3 ⊢
  omega
theorem znX {w:Way}:alw w=true↔w.Every=0∧w.Open.Lo=0∧w.Open.Hi=1439:=by unfold alw;simp
theorem znr {w:Way} (ha:alw w=true) {t a:Int} (h0:0≤a) (ht:0≤t):fin w t a=if a+t≤1439 then some (a+t) else none:=by
 obtain ⟨h1,h2,h3⟩:=znX.1 ha
 have:bgn w a=a:=by unfold bgn;rw [if_neg (by omega),h2];omega
 unfold fin
 rw [this,h3]
 by_cases h:a+t≤1439
 · rw [if_pos ⟨by omega,h⟩,if_pos h]
 · rw [if_neg (fun e=>h e.2),if_neg h]
theorem arr_wk {c:Chart} {T:Nat→Int} (N:Net c T) (hall:∀ i,i<c.Ways.length→alw (way c i)=true) {s a0 p b:Int} (hs:0≤s∧s<c.Places) (h0:0≤a0∧a0≤1439) (h:Arr c T s a0 p b):Wk c T s.toNat p.toNat (b - a0):=by
 induction h with
 | start=>rw [Int.sub_self];exact .nil
 | step p a i b h hi hf hb ih=>
  have ba:=h.bounds N hs h0
  have ht:=N.len i hi
  rw [znr (hall i hi) (by omega) (by omega)] at hb
  split at hb
  · cases hb
    rw [show a+T i - a0=a - a0+T i by omega]
    exact .snoc _ _ i ih hi (hall i hi) (by rw [hf])
  · cases hb
theorem wk_arr {c:Chart} {T:Nat→Int} (N:Net c T) {s a0:Int} (hs:0≤s∧s<c.Places) (h0:0≤a0∧a0≤1439) {p:Nat} {x:Int} (h:Wk c T s.toNat p x):a0+x≤1439→Arr c T s a0 (p:Int) (a0+x):=by
 induction h with
 | nil=>intro _;rw [Int.add_zero,show ((s.toNat:Nat):Int)=s by omega];exact .start
 | snoc p x i h hi ha hf ih=>
  intro hx
  have ht:=N.len i hi
  have hj:=zco.1 (zca N.val hi)
  have A:=ih (by omega)
  have ba:=A.bounds N hs h0
  have:=Arr.step _ _ i (a0+x+T i) A hi (by omega) (by rw [znr ha (by omega) (by omega),if_pos (by omega)])
  rw [show (((way c i).To.toNat:Nat):Int)=(way c i).To by omega,← Int.add_assoc]
  exact this
theorem zn8 {c:Chart} {T:Nat→Int} (N:Net c T) (hall:∀ i,i<c.Ways.length→alw (way c i)=true) {s a0:Int} (hs:0≤s∧s<c.Places) (h0:0≤a0∧a0≤1439) {L:List Int} (h:Mins c T s a0 L) {q:Nat} (hq:q<c.Places.toNat) (hd:0≤dst c T s.toNat q) (hn:a0+dst c T s.toNat q≤1439):L.getD q default=a0+dst c T s.toNat q:=by
 have A:=wk_arr N hs h0 (zo8 _ _ hd) hn
 obtain ⟨h1,h2⟩:=h.lst q hq
 by_cases e:L.getD q default<0
 · rw [zpt e] at h2;exact absurd A (h2 _)
 · rw [zm6 (by omega)] at h2
   have:=h2.2 _ A
   have:=((arr_wk N hall hs h0 h2.1).le N (by omega)).2.2
   rw [show (((q:Nat):Int)).toNat=q by omega] at this
   omega
end Go.Sp
end
/- Plain laws, crew: what a valid crew is. No program in sight. -/
section
set_option linter.all false
namespace Go.Sp
open Go.Av
set_option maxRecDepth 100000
def tv (t:List (List Range)) (a b:Nat):Range:=(t.getD a default).getD b default
structure TravelOk (t:List (List Range)):Prop where
 len:t.length≤12
 row:∀ a,a<t.length→(t.getD a default).length=t.length
 diag:∀ a,a<t.length→(tv t a a).Lo=0∧(tv t a a).Hi=0
 rng:∀ a b,a<t.length→b<t.length→0≤(tv t a b).Lo∧(tv t a b).Lo≤(tv t a b).Hi∧(tv t a b).Hi≤600
 tri:∀ a b c,a<t.length→b<t.length→c<t.length→(tv t a c).Lo≤(tv t a b).Lo+(tv t b c).Lo∧(tv t a c).Hi≤(tv t a b).Hi+(tv t b c).Hi
def ziL (t:Task):Prop:=1≤t.Lamp∧t.Lamp≤999∧0≤t.Place∧t.Place≤11∧0≤t.At∧t.At≤1439∧1≤t.Serve∧t.Serve≤120
def zmd (h:Hand):Prop:=1≤h.Id∧h.Id≤99∧0≤h.From∧h.From≤h.To∧h.To≤1439
def tk (c:Crew) (i:Nat):Task:=c.Tasks.getD i default
def hd (c:Crew) (i:Nat):Hand:=c.Hands.getD i default
structure Valid (c:Crew):Prop where
 tasks:c.Tasks.length≤24
 hands:c.Hands.length≤16
 travel:TravelOk c.Travel
 task:∀ i,i<c.Tasks.length→ziL (tk c i)∧(tk c i).Place<c.Travel.length∧(0<i→(tk c (i - 1)).Lamp<(tk c i).Lamp)
 hand:∀ i,i<c.Hands.length→zmd (hd c i)∧(0<i→(hd c (i - 1)).Id<(hd c i).Id)
theorem zeD {a b c:Int}:zaH a b c=true↔b≤a∧a≤c:=by simp [zaH]
theorem zf4 {t:Task}:zbg t=0↔ziL t:=by
 unfold zbg ziL zbx
 by_cases h1:zaH t.Lamp 1 999=true <;> by_cases h2:zaH t.Place 0 11=true <;> by_cases h3:zaH t.At 0 1439=true <;> by_cases h4:zaH t.Serve 1 120=true <;>
  simp [h1,h2,h3,h4] <;> simp only [zeD] at h1 h2 h3 h4 <;> omega
theorem zf5 {t:Hand}:zbh t=0↔zmd t:=by
 unfold zbh zmd zbx
 by_cases h1:zaH t.Id 1 99=true <;> by_cases h2:zaH t.From 0 1439=true <;> by_cases h3:zaH t.To t.From 1439=true <;>
  simp [h1,h2,h3] <;> simp only [zeD] at h1 h2 h3 <;> omega
theorem range_zero {r:Range}:((decide (r.Lo=0)) && (decide (r.Hi=0)))=true↔r.Lo=0∧r.Hi=0:=by simp
theorem zkY (t:List (List Range)):Wp (zcY t) (fun r=>r=true↔TravelOk t):=by
 unfold zcY
 refine zcA (fun h=>zap ⟨fun h=>(by cases h),fun T=>by have:=T.len;omega⟩) (fun h=>?_)
 refine zaN (fun a=>(t.getD a default).length=t.length∧((tv t a a).Lo=0∧(tv t a a).Hi=0)∧∀ b,b<t.length→0≤(tv t a b).Lo∧(tv t a b).Lo≤(tv t a b).Hi∧(tv t a b).Hi≤600) (fun a K ha _ hK=>?_) (fun h1=>?_)
 · refine zae (fun hl=>by simp [-List.getD_eq_getElem?_getD] at hl;omega) ?_
   refine zbS (fun hb=>?_) (fun hb=>?_)
   · refine zap ⟨fun h=>(by cases h),fun T=>?_⟩
     have h1:=T.row a ha
     have h2:=T.diag a ha
     unfold tv at h2
     simp [h2,-List.getD_eq_getElem?_getD] at hb
     omega
   · have hb':(t.getD a default).length=t.length∧((tv t a a).Lo=0∧(tv t a a).Hi=0):=by
      simp only [Bool.or_eq_false_iff,Bool.not_eq_false'] at hb
      exact ⟨by have:=hb.1;simp [-List.getD_eq_getElem?_getD] at this;omega,range_zero.1 hb.2⟩
     refine zaN (fun b=>0≤(tv t a b).Lo∧(tv t a b).Lo≤(tv t a b).Hi∧(tv t a b).Hi≤600) (fun b K' hb2 _ hK'=>?_) (fun h2=>?_)
     · refine zbS (fun hc=>?_) (fun hc=>?_)
       · refine zap ⟨fun h=>(by cases h),fun T=>?_⟩
         have:=T.rng a b ha (by omega)
         unfold tv at this
         simp only [Bool.or_eq_true,Bool.not_eq_true',decide_eq_true_eq] at hc
         rcases hc with hc|hc
         · have:zaH (((t.getD a default).getD b default).Lo) 0 (((t.getD a default).getD b default).Hi)=true:=zeD.2 (by omega)
           rw [hc] at this;cases this
         · omega
       · refine hK' ?_
         simp only [Bool.or_eq_false_iff,Bool.not_eq_false',decide_eq_false_iff_not] at hc
         have:=zeD.1 hc.1
         unfold tv;omega
     · exact hK ⟨hb'.1,hb'.2,fun b hb=>h2 b (by omega)⟩
 · refine zaN (fun a=>∀ b c,b<t.length→c<t.length→(tv t a c).Lo≤(tv t a b).Lo+(tv t b c).Lo∧(tv t a c).Hi≤(tv t a b).Hi+(tv t b c).Hi) (fun a K ha _ hK=>?_) (fun h2=>?_)
   · refine zaN (fun b=>∀ c,c<t.length→(tv t a c).Lo≤(tv t a b).Lo+(tv t b c).Lo∧(tv t a c).Hi≤(tv t a b).Hi+(tv t b c).Hi) (fun b K' hb _ hK'=>?_) (fun h3=>hK (fun b c hb hc=>h3 b hb c hc))
     refine zaN (fun c=>(tv t a c).Lo≤(tv t a b).Lo+(tv t b c).Lo∧(tv t a c).Hi≤(tv t a b).Hi+(tv t b c).Hi) (fun c K'' hc _ hK''=>?_) (fun h3=>hK' h3)
     have r1:=(h1 a ha).1
     have r2:=(h1 b hb).1
     have q1:=(h1 a ha).2.2 b hb
     have q2:=(h1 b hb).2.2 c hc
     have q3:=(h1 a ha).2.2 c hc
     have e:∀ a b,((t.getD a default).getD b default)=tv t a b:=fun _ _=>rfl
     simp only [e]
     repeat (first|(refine zae ?_ ?_;· omega)|(refine zat ?_ ?_;· omega)|(refine zae ?_ ?_;· (intro _;omega))|(refine zn2 ?_ ?_;· (intro _;omega)))
     refine zbS (fun hd=>?_) (fun hd=>?_)
     · refine zap ⟨fun h=>(by cases h),fun T=>?_⟩
       have:=T.tri a b c ha hb hc
       simp only [Bool.or_eq_true,decide_eq_true_eq] at hd
       omega
     · refine hK'' ?_
       simp only [Bool.or_eq_false_iff,decide_eq_false_iff_not] at hd
       omega
   · exact zap ⟨fun _=>⟨by omega,fun a ha=>(h1 a ha).1,fun a ha=>(h1 a ha).2.1,fun a b ha hb=>(h1 a ha).2.2 b hb,fun a b c ha hb hc=>h2 a ha b c hb hc⟩,fun _=>rfl⟩
theorem zoJ (c:Crew):Wp (zb3 c) (fun r=>(Valid c∧r=0)∨(¬ Valid c∧r=42)):=by
 unfold zb3
 refine zkC (Q:=fun r=>r=true↔TravelOk c.Travel) (fun _=>zkY c.Travel) (fun y hy=>?_)
 refine zbS (fun hb=>zap (.inr ⟨fun V=>?_,rfl⟩)) (fun hb=>?_)
 · have h1:=V.tasks;have h2:=V.hands
   have e:(decide (24<((c.Tasks.length:Nat):Int)) || decide (16<((c.Hands.length:Nat):Int)))=false:=by simp;omega
   rw [e] at hb hy
   have:=(hy rfl).2 V.travel
   rw [this] at hb;cases hb
 · simp only [Bool.or_eq_false_iff,Bool.not_eq_false',decide_eq_false_iff_not] at hb
   have T:=(hy (by simp [hb.1.1,hb.1.2])).1 hb.2
   refine zaN (fun i=>ziL (tk c i)∧(tk c i).Place<c.Travel.length∧(0<i→(tk c (i - 1)).Lamp<(tk c i).Lamp)) (fun i K hi _ hK=>?_) (fun h1=>?_)
   · refine zae (fun _=>by unfold inI;omega) ?_
     refine zae (fun h=>by simp at h;omega) ?_
     have e:(((i:Int) - 1)).toNat=i - 1:=by omega
     rw [e]
     refine zbS (fun hb2=>zap (.inr ⟨fun V=>?_,rfl⟩)) (fun hb2=>?_)
     · obtain ⟨a1,a2,a3⟩:=V.task i hi
       unfold tk at a1 a2 a3
       have a4:=zf4.2 a1
       simp only [a4,Bool.or_eq_true,Bool.and_eq_true,decide_eq_true_eq,Bool.not_eq_true'] at hb2
       simp [-List.getD_eq_getElem?_getD] at hb2
       omega
     · simp only [Bool.or_eq_false_iff,Bool.and_eq_false_iff,Bool.not_eq_false',decide_eq_true_eq,decide_eq_false_iff_not] at hb2
       refine hK ⟨zf4.1 hb2.1.1,by unfold tk;omega,fun h0=>?_⟩
       unfold tk
       rcases hb2.2 with h|h <;> omega
   · refine zaN (fun i=>zmd (hd c i)∧(0<i→(hd c (i - 1)).Id<(hd c i).Id)) (fun i K hi _ hK=>?_) (fun h2=>zap (.inl ⟨⟨by omega,by omega,T,h1,h2⟩,rfl⟩))
     refine zae (fun _=>by unfold inI;omega) ?_
     refine zae (fun h=>by simp at h;omega) ?_
     have e:(((i:Int) - 1)).toNat=i - 1:=by omega
     rw [e]
     refine zbS (fun hb2=>zap (.inr ⟨fun V=>?_,rfl⟩)) (fun hb2=>?_)
     · obtain ⟨a1,a3⟩:=V.hand i hi
       unfold hd at a1 a3
       have a4:=zf5.2 a1
       simp only [a4,Bool.or_eq_true,Bool.and_eq_true,decide_eq_true_eq,Bool.not_eq_true'] at hb2
       simp [-List.getD_eq_getElem?_getD] at hb2
       omega
     · simp only [Bool.or_eq_false_iff,Bool.and_eq_false_iff,Bool.not_eq_false',decide_eq_true_eq,decide_eq_false_iff_not] at hb2
       refine hK ⟨zf5.1 hb2.1,fun h0=>?_⟩
       unfold hd
       rcases hb2.2 with h|h <;> omega
noncomputable def chk (c:Crew):Int:=@ite _ (Valid c) (Classical.propDecidable _) 0 42
theorem zek {c:Crew} (h:Valid c):chk c=0:=if_pos h
theorem zlk {c:Crew} (h:¬ Valid c):chk c=42:=if_neg h
theorem zf3 (c:Crew):zb3 c=some (chk c):=by
 refine Wp.eq ((zoJ c).mono (fun r h=>?_))
 rcases h with ⟨h,rfl⟩|⟨h,rfl⟩
 · exact (zek h).symm
 · exact (zlk h).symm
end Go.Sp
end
/- Matchings: a search for a free partner, where others step aside; what it leaves. No program in sight. -/
section
set_option linter.all false
namespace Go.Sp
structure Ks where
 seen:Nat→Bool
 own:Nat→Int
 back:Nat→Int
def Ks.see (s:Ks) (j:Nat):Ks:=⟨fun k=>s.seen k || decide (k=j),s.own,s.back⟩
def Ks.give (s:Ks) (j i:Nat):Ks:=⟨s.seen,fun k=>if k=j then (i:Int) else s.own k,fun k=>if k=i then (j:Int) else s.back k⟩
inductive Srch (adj:Nat→Nat→Prop) (m:Nat):Nat→Nat→Ks→Bool→Ks→Prop
 | done {i j:Nat} {s:Ks}:m≤j→Srch adj m i j s false s
 | skip {i j:Nat} {s s':Ks} {b:Bool}:j<m→(adj i j→s.seen j=true)→Srch adj m i (j+1) s b s'→Srch adj m i j s b s'
 | free {i j:Nat} {s:Ks}:j<m→adj i j→s.seen j=false→s.own j<0→Srch adj m i j s true ((s.see j).give j i)
 | aug {i j o:Nat} {s s':Ks}:j<m→adj i j→s.seen j=false→s.own j=(o:Int)→Srch adj m o 0 (s.see j) true s'→Srch adj m i j s true (s'.give j i)
 | fail {i j o:Nat} {s s1 s':Ks} {b:Bool}:j<m→adj i j→s.seen j=false→s.own j=(o:Int)→Srch adj m o 0 (s.see j) false s1→Srch adj m i (j+1) s1 b s'→Srch adj m i j s b s'
variable {adj:Nat→Nat→Prop} {m:Nat}
theorem Srch.mono {i j:Nat} {s s':Ks} {b:Bool} (H:Srch adj m i j s b s'):∀ k,s.seen k=true→s'.seen k=true:=by
 induction H with
 | done _=>exact fun k h=>h
 | skip _ _ _ ih=>exact ih
 | free=>intro k h;show (_ || _)=true;rw [h];rfl
 | aug _ _ _ _ _ ih=>intro k h;exact ih k (by show (_ || _)=true;rw [h];rfl)
 | fail _ _ _ _ _ _ ih1 ih2=>intro k h;exact ih2 k (ih1 k (by show (_ || _)=true;rw [h];rfl))
theorem Srch.zoi {i j:Nat} {s s':Ks} {b:Bool} (H:Srch adj m i j s b s'):∀ k,s.seen k=true→s'.own k=s.own k:=by
 induction H with
 | done _=>exact fun k _=>rfl
 | skip _ _ _ ih=>exact ih
 | @free i j s hj ha hs ho=>intro k h;show (if k=j then _ else _)=_;rw [if_neg (fun e=>by subst e;rw [hs] at h;cases h)];rfl
 | @aug i j o s s' hj ha hs ho hr ih=>
  intro k h
  show (if k=j then _ else _)=_
  rw [if_neg (fun e=>by subst e;rw [hs] at h;cases h)]
  exact ih k (by show (_ || _)=true;rw [h];rfl)
 | @fail i j o s s1 s' b _ _ _ _ h1 _ ih1 ih2=>
  intro k h
  have h':(s.see j).seen k=true:=by show (_ || _)=true;rw [h];rfl
  rw [ih2 k (h1.mono k h'),ih1 k h'];rfl
theorem Srch.same {i j:Nat} {s s':Ks} {b:Bool} (H:Srch adj m i j s b s'):b=false→s'.own=s.own∧s'.back=s.back:=by
 induction H with
 | done _=>exact fun _=>⟨rfl,rfl⟩
 | skip _ _ _ ih=>exact ih
 | free=>intro h;cases h
 | aug=>intro h;cases h
 | fail _ _ _ _ _ _ ih1 ih2=>intro h;obtain ⟨a,b⟩:=ih2 h;obtain ⟨c,d⟩:=ih1 rfl;exact ⟨a.trans c,b.trans d⟩
theorem Srch.shut {i j:Nat} {s s':Ks} {b:Bool} (H:Srch adj m i j s b s'):b=false→(∀ k,j≤k→k<m→adj i k→s'.seen k=true) ∧
 ∀ k,s'.seen k=true→s.seen k=false→k<m∧∃ o:Nat,s.own k=(o:Int)∧∀ q,q<m→adj o q→s'.seen q=true:=by
 induction H with
 | done h=>intro _;exact ⟨fun k h1 h2=>by omega,fun k h1 h2=>by rw [h1] at h2;cases h2⟩
 | @skip i j s s' b hj ha hr ih=>
  intro hb
  obtain ⟨h1,h2⟩:=ih hb
  refine ⟨fun k hk hm hadj=>?_,h2⟩
  by_cases e:k=j
  · subst e;exact hr.mono k (ha hadj)
  · exact h1 k (by omega) hm hadj
 | free=>intro h;cases h
 | aug=>intro h;cases h
 | @fail i j o s s1 s' b hj ha hs ho hr1 hr2 ih1 ih2=>
  intro hb
  obtain ⟨a1,a2⟩:=ih1 rfl
  obtain ⟨b1,b2⟩:=ih2 hb
  have hsee:(s.see j).seen j=true:=by show (_ || _)=true;simp
  have hown:=(hr1.same rfl).1
  refine ⟨fun k hk hm hadj=>?_,fun k h1 h2=>?_⟩
  · by_cases e:k=j
    · subst e;exact hr2.mono k (hr1.mono k hsee)
    · exact b1 k (by omega) hm hadj
  · by_cases e1:s1.seen k=true
    · by_cases e:k=j
      · subst e
        exact ⟨hj,o,ho,fun q hq hadj=>hr2.mono q (a1 q (Nat.zero_le _) hq hadj)⟩
      · obtain ⟨c0,o',c1,c2⟩:=a2 k e1 (by show (_ || _)=false;rw [h2];simp [e])
        exact ⟨c0,o',c1,fun q hq hadj=>hr2.mono q (c2 q hq hadj)⟩
    · obtain ⟨c0,o',c1,c2⟩:=b2 k h1 (by simpa using e1)
      rw [hown] at c1
      exact ⟨c0,o',c1,c2⟩
structure Mat (adj:Nat→Nat→Prop) (m:Nat) (s:Ks):Prop where
 back:∀ x:Nat,0≤s.back x→∃ k:Nat,s.back x=(k:Int)∧k<m∧s.own k=(x:Int)∧adj x k
 own:∀ k:Nat,k<m→0≤s.own k→∃ x:Nat,s.own k=(x:Int)∧s.back x=(k:Int)
structure Done (adj:Nat→Nat→Prop) (m:Nat) (i:Nat) (s s':Ks):Prop where
 back:∀ x:Nat,0≤s'.back x→∃ k:Nat,s'.back x=(k:Int)∧k<m∧s'.own k=(x:Int)∧adj x k
 own:∀ k:Nat,k<m→0≤s'.own k→∃ x:Nat,s'.own k=(x:Int)∧(s'.back x=(k:Int)∨(x=i∧s.back i=(k:Int)))
 new:∃ k:Nat,s'.back i=(k:Int)∧s.seen k=false
 rest:∀ x:Nat,x≠i→(0≤s'.back x↔0≤s.back x)∧(s'.back x=s.back x∨∃ k:Nat,s.back x=(k:Int)∧s.seen k=false)
theorem Srch.win {i j:Nat} {s s':Ks} {b:Bool} (H:Srch adj m i j s b s'):b=true→Mat adj m s→(∀ k:Nat,s.back i=(k:Int)→s.seen k=true)→Done adj m i s s':=by
 induction H with
 | done _=>intro h;cases h
 | skip _ _ _ ih=>exact ih
 | @free i j s hj ha hs ho=>
  intro _ M hi
  refine ⟨fun x hx=>?_,fun k hk hx=>?_,⟨j,by show (if i=i then _ else _)=_;rw [if_pos rfl],hs⟩,fun x hx=>?_⟩
  · by_cases e:x=i
    · subst e
      refine ⟨j,by show (if x=x then _ else _)=_;rw [if_pos rfl],hj,by show (if j=j then _ else _)=_;rw [if_pos rfl],ha⟩
    · have eb:((s.see j).give j i).back x=s.back x:=by show (if x=i then _ else _)=_;rw [if_neg e];rfl
      rw [eb] at hx ⊢
      obtain ⟨k,h1,h2,h3,h4⟩:=M.back x hx
      refine ⟨k,h1,h2,?_,h4⟩
      show (if k=j then _ else _)=_
      rw [if_neg (fun e=>by subst e;omega)];exact h3
  · by_cases e:k=j
    · subst e
      exact ⟨i,by show (if k=k then _ else _)=_;rw [if_pos rfl],.inl (by show (if i=i then _ else _)=_;rw [if_pos rfl])⟩
    · have eo:((s.see j).give j i).own k=s.own k:=by show (if k=j then _ else _)=_;rw [if_neg e];rfl
      rw [eo] at hx ⊢
      obtain ⟨x,h1,h2⟩:=M.own k hk hx
      refine ⟨x,h1,?_⟩
      by_cases e2:x=i
      · subst e2;exact .inr ⟨rfl,h2⟩
      · left;show (if x=i then _ else _)=_;rw [if_neg e2];exact h2
  · have eb:((s.see j).give j i).back x=s.back x:=by show (if x=i then _ else _)=_;rw [if_neg hx];rfl
    rw [eb]
    exact ⟨Iff.rfl,.inl rfl⟩
 | @aug i j o s s' hj ha hs ho hr ih=>
  intro _ M hi
  have hbo:s.back o=(j:Int):=by
   obtain ⟨x,h1,h2⟩:=M.own j hj (by omega)
   have:x=o:=by omega
   subst this;exact h2
  have hio:i≠o:=fun e=>by subst e;have:=hi j hbo;rw [hs] at this;cases this
  have M2:Mat adj m (s.see j):=⟨M.back,M.own⟩
  have D:=ih rfl M2 (fun k hk=>by
   have:k=j:=by have:(s.see j).back o=s.back o:=rfl;omega
   subst this;show (_ || _)=true;simp)
  have hownj:s'.own j=(o:Int):=by rw [hr.zoi j (by show (_ || _)=true;simp)];exact ho
  obtain ⟨j',hj',hns⟩:=D.new
  have hjj:j'≠j:=fun e=>by subst e;have:(s.see j').seen j'=true:=(by show (_ || _)=true;simp);rw [this] at hns;cases hns
  have hbi:s'.back i=s.back i:=by
   rcases (D.rest i hio).2 with h|⟨k,h1,h2⟩
   · exact h
   · have h3:=hi k h1
     have:(s.see j).seen k=true:=by show (_ || _)=true;rw [h3];rfl
     rw [this] at h2;cases h2
  refine ⟨fun x hx=>?_,fun k hk hx=>?_,⟨j,by show (if i=i then _ else _)=_;rw [if_pos rfl],hs⟩,fun x hx=>?_⟩
  · by_cases e:x=i
    · subst e
      exact ⟨j,by show (if x=x then _ else _)=_;rw [if_pos rfl],hj,by show (if j=j then _ else _)=_;rw [if_pos rfl],ha⟩
    · have eb:(s'.give j i).back x=s'.back x:=by show (if x=i then _ else _)=_;rw [if_neg e]
      rw [eb] at hx ⊢
      obtain ⟨k,h1,h2,h3,h4⟩:=D.back x hx
      refine ⟨k,h1,h2,?_,h4⟩
      show (if k=j then _ else _)=_
      rw [if_neg (fun e=>by
       subst e
       have:x=o:=by omega
       subst this;omega)]
      exact h3
  · by_cases e:k=j
    · subst e
      exact ⟨i,by show (if k=k then _ else _)=_;rw [if_pos rfl],.inl (by show (if i=i then _ else _)=_;rw [if_pos rfl])⟩
    · have eo:(s'.give j i).own k=s'.own k:=by show (if k=j then _ else _)=_;rw [if_neg e]
      rw [eo] at hx ⊢
      obtain ⟨x,h1,h2⟩:=D.own k hk hx
      refine ⟨x,h1,?_⟩
      rcases h2 with h2|⟨h2,h3⟩
      · by_cases e2:x=i
        · subst e2;exact .inr ⟨rfl,by rw [← hbi];exact h2⟩
        · left;show (if x=i then _ else _)=_;rw [if_neg e2];exact h2
      · exfalso
        have:(s.see j).back o=s.back o:=rfl
        omega
  · have eb:(s'.give j i).back x=s'.back x:=by show (if x=i then _ else _)=_;rw [if_neg hx]
    rw [eb]
    by_cases e:x=o
    · subst e
      exact ⟨⟨fun _=>by omega,fun _=>by omega⟩,.inr ⟨j,hbo,hs⟩⟩
    · obtain ⟨h1,h2⟩:=D.rest x e
      refine ⟨h1,?_⟩
      rcases h2 with h2|⟨k,h2,h3⟩
      · exact .inl h2
      · exact .inr ⟨k,h2,by have:(s.seen k || decide (k=j))=false:=h3;simp at this;exact this.1⟩
 | @fail i j o s s1 s' b hj ha hs ho hr1 hr2 ih1 ih2=>
  intro hb M hi
  obtain ⟨e1,e2⟩:=hr1.same rfl
  have e1:s1.own=s.own:=e1
  have e2:s1.back=s.back:=e2
  have hm:∀ k,s.seen k=true→s1.seen k=true:=fun k h=>hr1.mono k (by show (_ || _)=true;rw [h];rfl)
  have D:=ih2 hb ⟨by rw [e1,e2];exact M.back,by rw [e1,e2];exact M.own⟩ (fun k hk=>hm k (hi k (by rw [← e2];exact hk)))
  have hf:∀ k,s1.seen k=false→s.seen k=false:=fun k h=>by
   cases h':s.seen k with
   | false=>rfl
   | true=>rw [hm k h'] at h;cases h
  refine ⟨D.back,by have:=D.own;rwa [e2] at this,?_,fun x hx=>?_⟩
  · obtain ⟨k,h1,h2⟩:=D.new;exact ⟨k,h1,hf k h2⟩
  · obtain ⟨h1,h2⟩:=D.rest x hx
    rw [e2] at h1 h2
    refine ⟨h1,?_⟩
    rcases h2 with h2|⟨k,h2,h3⟩
    · exact .inl h2
    · exact .inr ⟨k,h2,hf k h3⟩
def Dead (adj:Nat→Nat→Prop) (m:Nat) (own:Nat→Int) (D:Nat→Prop):Prop:=∀ k,k<m→D k→∃ o:Nat,own k=(o:Int)∧∀ q,q<m→adj o q→D q
theorem Srch.lost {i j:Nat} {s s':Ks} {b:Bool} (H:Srch adj m i j s b s') {D:Nat→Prop}:Dead adj m s.own D→(∀ q,q<m→adj i q→D q)→b=false:=by
 induction H with
 | done _=>intro _ _;rfl
 | skip _ _ _ ih=>exact ih
 | @free i j s hj ha hs ho=>intro hD hi;obtain ⟨o,h,_⟩:=hD j hj (hi j hj ha);omega
 | @aug i j o s s' hj ha hs ho hr ih=>
  intro hD hi
  obtain ⟨o',h,h2⟩:=hD j hj (hi j hj ha)
  have:o'=o:=by omega
  subst this
  exact ih hD h2
 | @fail i j o s s1 s' b hj ha hs ho hr1 hr2 ih1 ih2=>
  intro hD hi
  have e1:s1.own=s.own:=(hr1.same rfl).1
  exact ih2 (by rw [e1];exact hD) hi
theorem Srch.kept {i j:Nat} {s s':Ks} {b:Bool} (H:Srch adj m i j s b s') {D:Nat→Prop}:Dead adj m s.own D→∀ k,k<m→D k→s'.own k=s.own k:=by
 induction H with
 | done _=>intro _ k _ _;rfl
 | skip _ _ _ ih=>exact ih
 | @free i j s hj ha hs ho=>
  intro hD k hk hd
  obtain ⟨o,h,_⟩:=hD k hk hd
  show (if k=j then _ else _)=_
  rw [if_neg (fun e=>by subst e;omega)];rfl
 | @aug i j o s s' hj ha hs ho hr ih=>
  intro hD k hk hd
  show (if k=j then _ else _)=_
  rw [if_neg (fun e=>by
   subst e
   obtain ⟨o',h,h2⟩:=hD k hk hd
   have:o'=o:=by omega
   subst this
   have:=hr.lost hD h2
   cases this)]
  exact ih hD k hk hd
 | @fail i j o s s1 s' b hj ha hs ho hr1 hr2 ih1 ih2=>
  intro hD k hk hd
  have e1:s1.own=s.own:=(hr1.same rfl).1
  rw [ih2 (by rw [e1];exact hD) k hk hd,e1]
structure Kuhn (adj:Nat→Nat→Prop) (m:Nat) (n:Nat) (s:Ks) (D:Nat→Prop):Prop where
 mat:Mat adj m s
 dead:Dead adj m s.own D
 lost:∀ x:Nat,x<n→s.back x<0→∀ q,q<m→adj x q→D q
 rest:∀ x:Nat,n≤x→s.back x<0
 lt:∀ k,D k→k<m
theorem Kuhn.start {s:Ks} (h1:∀ k,s.own k<0) (h2:∀ x,s.back x<0):Kuhn adj m 0 s (fun _=>False):=
 ⟨⟨fun x hx=>by have:=h2 x;omega,fun k _ hx=>by have:=h1 k;omega⟩,fun k _ h=>h.elim,fun x hx=>by omega,fun x _=>h2 x,fun k h=>h.elim⟩
theorem Kuhn.step {n:Nat} {s s':Ks} {D:Nat→Prop} {b:Bool} (K:Kuhn adj m n s D) (hs:∀ k,s.seen k=false) (H:Srch adj m n 0 s b s'):∃ D',Kuhn adj m (n+1) s' D'∧(b=true↔0≤s'.back n)∧∀ x:Nat,x≠n→(0≤s'.back x↔0≤s.back x):=by
 have hn:=K.rest n (Nat.le_refl _)
 cases hb:b with
 | false=>
  obtain ⟨e1,e2⟩:=H.same hb
  obtain ⟨a1,a2⟩:=H.shut hb
  refine ⟨fun k=>D k∨s'.seen k=true,⟨⟨by rw [e1,e2];exact K.mat.back,by rw [e1,e2];exact K.mat.own⟩,fun k hk hd=>?_,fun x hx hbx q hq hadj=>?_,fun x hx=>?_,fun k hd=>?_⟩,?_,fun x _=>by rw [e2]⟩
  · rw [e1]
    rcases hd with hd|hd
    · obtain ⟨o,h1,h2⟩:=K.dead k hk hd;exact ⟨o,h1,fun q hq ha=>.inl (h2 q hq ha)⟩
    · obtain ⟨_,o,h1,h2⟩:=a2 k hd (hs k);exact ⟨o,h1,fun q hq ha=>.inr (h2 q hq ha)⟩
  · by_cases e:x=n
    · subst e;exact .inr (a1 q (Nat.zero_le _) hq hadj)
    · rw [e2] at hbx;exact .inl (K.lost x (by omega) hbx q hq hadj)
  · rw [e2];exact K.rest x (by omega)
  · rcases hd with hd|hd
    · exact K.lt k hd
    · exact (a2 k hd (hs k)).1
  · rw [e2];constructor
    · intro h;cases h
    · intro h;omega
 | true=>
  have W:=H.win hb K.mat (fun k hk=>by omega)
  have hk:=H.kept K.dead
  obtain ⟨k0,h0,_⟩:=W.new
  refine ⟨D,⟨⟨W.back,fun k hkm hx=>?_⟩,fun k hkm hd=>?_,fun x hx hbx=>?_,fun x hx=>?_,K.lt⟩,⟨fun _=>by omega,fun _=>rfl⟩,fun x hx=>(W.rest x hx).1⟩
  · obtain ⟨x,h1,h2⟩:=W.own k hkm hx
    rcases h2 with h2|⟨rfl,h2⟩
    · exact ⟨x,h1,h2⟩
    · omega
  · rw [hk k hkm hd];exact K.dead k hkm hd
  · have hxn:x≠n:=fun e=>by subst e;omega
    have:=(W.rest x hxn).1
    exact K.lost x (by omega) (by omega)
  · have:=(W.rest x (by omega)).1
    have:=K.rest x (by omega)
    omega
end Go.Sp
end
/- Plain laws, crew: which task follows which; the plan. No program in sight. -/
section
set_option linter.all false
namespace Go.Sp
open Go.Av
set_option maxRecDepth 100000
def zg5 (e:Range→Int):Prop:=e=Range.Lo∨e=Range.Hi
def gap (c:Crew) (e:Range→Int) (i j:Nat):Int:=(tk c j).At - (tk c i).At - (tk c i).Serve - e (tv c.Travel (tk c i).Place.toNat (tk c j).Place.toNat)
def fol (c:Crew) (e:Range→Int) (i j:Nat):Prop:=i<c.Tasks.length∧j<c.Tasks.length∧0≤gap c e i j
instance (c:Crew) (e:Range→Int) (i j:Nat):Decidable (fol c e i j):=inferInstanceAs (Decidable (_∧_∧_))
theorem Valid.place {c:Crew} (V:Valid c) {i:Nat} (hi:i<c.Tasks.length):0≤(tk c i).Place∧(tk c i).Place.toNat<c.Travel.length∧((tk c i).Place.toNat:Int)=(tk c i).Place:=by
 obtain ⟨a,b,_⟩:=V.task i hi
 unfold ziL at a;omega
theorem Valid.end {c:Crew} (V:Valid c) {e:Range→Int} (he:zg5 e) {i j:Nat} (hi:i<c.Tasks.length) (hj:j<c.Tasks.length):0≤e (tv c.Travel (tk c i).Place.toNat (tk c j).Place.toNat)∧e (tv c.Travel (tk c i).Place.toNat (tk c j).Place.toNat)≤600:=by
 have:=V.travel.rng _ _ (V.place hi).2.1 (V.place hj).2.1
 rcases he with rfl|rfl <;> omega
theorem Valid.at {c:Crew} (V:Valid c) {i:Nat} (hi:i<c.Tasks.length):0≤(tk c i).At∧(tk c i).At≤1439∧1≤(tk c i).Serve∧(tk c i).Serve≤120:=by
 obtain ⟨a,_,_⟩:=V.task i hi
 unfold ziL at a;omega
theorem zo5 {c:Crew} (V:Valid c) {e:Range→Int} (he:zg5 e) {i j:Nat} (h:fol c e i j):(tk c i).At<(tk c j).At:=by
 obtain ⟨hi,hj,h⟩:=h
 have:=V.end he hi hj
 have:=V.at hi
 unfold gap at h;omega
theorem ziw {c:Crew} (V:Valid c) {e:Range→Int} (he:zg5 e) {i:Nat}:¬ fol c e i i:=fun h=>by have:=zo5 V he h;omega
theorem zj8 {c:Crew} (V:Valid c) {e:Range→Int} (he:zg5 e) {i j k:Nat} (h1:fol c e i j) (h2:fol c e j k):fol c e i k:=by
 obtain ⟨hi,hj,h1⟩:=h1
 obtain ⟨_,hk,h2⟩:=h2
 refine ⟨hi,hk,?_⟩
 have t:=V.travel.tri _ _ _ (V.place hi).2.1 (V.place hj).2.1 (V.place hk).2.1
 have:=V.at hj
 unfold gap at *
 rcases he with rfl|rfl <;> omega
theorem zn9 {c:Crew} (V:Valid c) {e:Range→Int} (he:zg5 e) {i j:Nat} (hi:i<c.Tasks.length) (hj:j<c.Tasks.length):zeg c (i:Int) (j:Int) (fun x=>some (e x))=some (gap c e i j):=by
 refine Wp.eq ?_
 unfold zeg
 have hpi:=V.place hi
 have hpj:=V.place hj
 have hai:=V.at hi
 have haj:=V.at hj
 have hen:=V.end he hi hj
 have hrow:=V.travel.row _ hpi.2.1
 have e1:c.Tasks.getD ((i:Int)).toNat default=tk c i:=rfl
 have e2:c.Tasks.getD ((j:Int)).toNat default=tk c j:=rfl
 rw [e1,e2]
 refine zae (by omega) (zae (by omega) (zat (by omega) (zat (by omega) (zae (by omega) (zae (by omega) (zaq rfl ?_))))))
 have e3:e ((c.Travel.getD ((tk c i).Place).toNat default).getD ((tk c j).Place).toNat default)=e (tv c.Travel (tk c i).Place.toNat (tk c j).Place.toNat):=rfl
 rw [e3]
 exact zat (by omega) (zap rfl)
structure IsPlan (n:Nat) (adj:Nat→Nat→Prop) (p:crew_plan):Prop where
 le:n≤24
 len:p.next.length=n
 bits:∀ i,i<n→0≤p.next.getD i default∧(p.next.getD i default).toNat<2 ^ n∧∀ j,j<n→((p.next.getD i default).toNat.testBit j=true↔adj i j)
theorem zm0 {n:Nat} (h:n≤24):2 ^ n≤16777216:=Nat.pow_le_pow_right (by omega) h
theorem zhu (j:Nat):((1:Int) * 2 ^ j)=((2 ^ j:Nat):Int):=by simp
theorem zoh {j n:Nat} (h:j<n) (hn:n≤24):2 ^ j<16777216:=Nat.lt_of_lt_of_le (Nat.pow_lt_pow_right (by omega) h) (zm0 hn)
theorem zgo {j n:Nat} (h:j<n) (hn:n≤24):0≤((1:Int) * 2 ^ j)∧((1:Int) * 2 ^ j)≤16777216:=by
 rw [zhu]
 have:=zoh h hn
 generalize 2 ^ j=q at this
 omega
theorem getD0 {l:List Int} {i:Nat}:l.getD i default=l.getD i 0:=rfl
theorem zec {c:Crew} (V:Valid c) {e:Range→Int} (he:zg5 e):Wp (zbB c (fun x=>some (e x))) (fun r=>∃ p,r=some p∧p.Crew=c∧IsPlan c.Tasks.length (fol c e) p):=by
 have hn:=V.tasks
 unfold zbB
 refine zae ⟨by omega,by omega,by unfold room;omega⟩ (zae (by omega) ?_)
 refine zaV (fun i s=>s.length=c.Tasks.length∧∀ a,a<c.Tasks.length→0≤s.getD a default∧(s.getD a default).toNat<2 ^ c.Tasks.length∧∀ b,b<c.Tasks.length→((s.getD a default).toNat.testBit b=true↔(a<i∧fol c e a b))) ?_ (fun i s K hi hI hK=>?_) (fun s hs=>zap ⟨_,rfl,rfl,hn,hs.1,fun a ha=>?_⟩)
 · refine ⟨by simp,fun a ha=>?_⟩
   have:(List.replicate (((c.Tasks.length:Nat):Int)).toNat (0:Int)).getD a default=0:=by rw [getD0,zft]
   rw [this]
   exact ⟨by omega,Nat.pow_pos (by omega),fun b _=>by simp⟩
 · refine zae (by omega) ?_
   refine zaV (fun j s=>s.length=c.Tasks.length∧∀ a,a<c.Tasks.length→0≤s.getD a default∧(s.getD a default).toNat<2 ^ c.Tasks.length∧∀ b,b<c.Tasks.length→((s.getD a default).toNat.testBit b=true↔((a<i∨(a=i∧b<j))∧fol c e a b))) ?_ (fun j s K' hj hI' hK'=>?_) (fun s hs=>hK s ⟨hs.1,fun a ha=>?_⟩)
   · refine ⟨hI.1,fun a ha=>?_⟩
     obtain ⟨h1,h2,h3⟩:=hI.2 a ha
     refine ⟨h1,h2,fun b hb=>(h3 b hb).trans ⟨fun h=>⟨.inl h.1,h.2⟩,fun h=>⟨by omega,h.2⟩⟩⟩
   · have same:(¬ fol c e i j)→∀ a,a<c.Tasks.length→0≤s.getD a default∧(s.getD a default).toNat<2 ^ c.Tasks.length∧∀ b,b<c.Tasks.length→((s.getD a default).toNat.testBit b=true↔((a<i∨(a=i∧b<j+1))∧fol c e a b)):=by
      intro hno a ha
      obtain ⟨h1,h2,h3⟩:=hI'.2 a ha
      refine ⟨h1,h2,fun b hb=>(h3 b hb).trans ⟨fun h=>⟨by omega,h.2⟩,fun h=>⟨?_,h.2⟩⟩⟩
      by_cases e1:a=i∧b=j
      · rw [e1.1,e1.2] at h;exact absurd h.2 hno
      · omega
     refine zkC (Q:=fun r=>r=gap c e i j) (fun _=>Wp.of_eq (zn9 V he hi hj) rfl) (fun y hy=>?_)
     refine zbS (fun hb=>?_) (fun hb=>?_)
     · simp only [Bool.and_eq_true,Bool.not_eq_true',decide_eq_false_iff_not,decide_eq_true_eq] at hb
       have hy:=hy (by simp;omega)
       subst hy
       have hf:fol c e i j:=⟨hi,hj,hb.2⟩
       obtain ⟨h1,h2,h3⟩:=hI'.2 i hi
       have hp:=zgo hj hn
       have hq:=zm0 hn
       have e0:((j:Int)).toNat=j:=rfl
       rw [e0]
       refine zae (by omega) (zae ⟨by omega,by omega,by unfold inI;omega⟩ (zae ⟨h1,hp.1,by unfold inI;omega,by unfold inI;omega⟩ (zae (by omega) ?_)))
       rw [zhu]
       refine hK' _ ⟨by rw [List.length_set];exact hI'.1,fun a ha=>?_⟩
       rw [zev _ _ _ _ _ (by omega)]
       by_cases e1:a=i
       · subst e1
         rw [if_pos rfl,Int.toNat_natCast,Int.toNat_natCast]
         refine ⟨by omega,or_lt h2 hj,fun b hb2=>?_⟩
         rw [zoY,Bool.or_eq_true,decide_eq_true_eq,h3 b hb2]
         constructor
         · rintro (h|h)
           · exact ⟨by omega,h.2⟩
           · subst h;exact ⟨by omega,hf⟩
         · rintro ⟨h,hf'⟩
           by_cases e2:b=j
           · exact .inr e2
           · exact .inl ⟨by omega,hf'⟩
       · rw [if_neg e1]
         obtain ⟨g1,g2,g3⟩:=hI'.2 a ha
         exact ⟨g1,g2,fun b hb2=>(g3 b hb2).trans ⟨fun h=>⟨by omega,h.2⟩,fun h=>⟨by omega,h.2⟩⟩⟩
     · refine hK' s ⟨hI'.1,same (fun hf=>?_)⟩
       have hne:i≠j:=fun e1=>by subst e1;exact ziw V he hf
       have hy:=hy (by simp;omega)
       subst hy
       simp only [Bool.and_eq_false_iff,Bool.not_eq_false',decide_eq_false_iff_not,decide_eq_true_eq] at hb
       have:=hf.2.2
       rcases hb with hb|hb <;> omega
   · obtain ⟨h1,h2,h3⟩:=hs.2 a ha
     exact ⟨h1,h2,fun b hb=>(h3 b hb).trans ⟨fun h=>⟨by omega,h.2⟩,fun h=>⟨by omega,h.2⟩⟩⟩
 · obtain ⟨h1,h2,h3⟩:=hs.2 a ha
   exact ⟨h1,h2,fun b hb=>(h3 b hb).trans ⟨fun h=>h.2,fun h=>⟨ha,h⟩⟩⟩
theorem zma {x:Int} {j:Nat} (h:0≤x):((((Int.fdiv x (2 ^ j)).toNat &&& ((1:Int)).toNat:Nat):Int))=if x.toNat.testBit j then 1 else 0:=by
 rw [zlY h,Int.toNat_natCast]
 have:((1:Int)).toNat=1:=rfl
 rw [this,zpO]
 split <;> rfl
theorem ze5 {x:Int} {j:Nat} (h:0≤x):decide ((((Int.fdiv x (2 ^ j)).toNat &&& ((1:Int)).toNat:Nat):Int)=1)=x.toNat.testBit j:=by
 rw [zma h]
 cases x.toNat.testBit j <;> rfl
theorem zmb {x:Int} {j:Nat} (h:0≤x):decide ((((Int.fdiv x (2 ^ j)).toNat &&& ((1:Int)).toNat:Nat):Int)=0) = !x.toNat.testBit j:=by
 rw [zma h]
 cases x.toNat.testBit j <;> rfl
theorem zd3 {x:Int} {j n:Nat} (h:0≤x) (hx:x.toNat<2 ^ n) (hn:n≤24):0≤Int.fdiv x (2 ^ j)∧0≤(1:Int)∧inI (Int.fdiv x (2 ^ j))∧inI 1:=by
 have h1:=zlY (j:=j) h
 have h2:x.toNat >>> j≤x.toNat:=by rw [Nat.shiftRight_eq_div_pow];exact Nat.div_le_self _ _
 have h3:=zm0 hn
 rw [h1]
 generalize x.toNat >>> j=q at h2
 refine ⟨by omega,by omega,by unfold inI;omega,by unfold inI;omega⟩
end Go.Sp
end
/- Plain laws, crew: pairs of tasks; how many rounds the program and the chapter find. No program in sight. -/
section
set_option linter.all false
namespace Go.Sp
open Go.Av
set_option maxRecDepth 100000
def ab (l:List Int):Nat→Int:=fun k=>l.getD k (-1)
def sb (x:Int):Nat→Bool:=fun k=>x.toNat.testBit k
theorem zmI {l:List Int} {k:Nat} (h:k<l.length):ab l k=l.getD k default:=by
 unfold ab
 rw [List.getD_eq_getElem?_getD,List.getD_eq_getElem?_getD,List.getElem?_eq_getElem h];rfl
theorem ab_ge {l:List Int} {k:Nat} (h:l.length≤k):ab l k = -1:=by
 unfold ab
 rw [List.getD_eq_getElem?_getD,List.getElem?_eq_none h];rfl
theorem zkA {l:List Int} {i:Nat} {x:Int} (h:i<l.length):ab (l.set i x)=fun k=>if k=i then x else ab l k:=by
 funext k;unfold ab;exact zev l i k x (-1) h
structure PS (n:Nat) (own back:List Int):Prop where
 ol:own.length=n
 bl:back.length=n
 ok:∀ k,k<n → -1≤ab own k∧ab own k<n
structure SB (n:Nat) (x:Int):Prop where
 nn:0≤x
 lt:x.toNat<2 ^ n
theorem SB.zero (n:Nat):SB n 0:=⟨by omega,by exact Nat.pow_pos (by omega)⟩
theorem SB.inI {n:Nat} {x:Int} (h:SB n x) (hn:n≤24):inI x:=by
 have:=zm0 hn
 have:=h.lt
 have:=h.nn
 unfold Av.inI;omega
theorem SB.put {n j:Nat} {x:Int} (h:SB n x) (hj:j<n):SB n (((x.toNat ||| (((1:Int) * 2 ^ j)).toNat:Nat):Int)):=by
 rw [zhu,Int.toNat_natCast]
 exact ⟨Int.natCast_nonneg _,by rw [Int.toNat_natCast];exact or_lt h.lt hj⟩
theorem zgL {j:Nat} {x:Int}:sb (((x.toNat ||| (((1:Int) * 2 ^ j)).toNat:Nat):Int))=fun k=>sb x k || decide (k=j):=by
 funext k
 unfold sb
 rw [zhu,Int.toNat_natCast,Int.toNat_natCast,zoY]
def ks (own back:List Int) (seen:Int):Ks:=⟨sb seen,ab own,ab back⟩
theorem ks_see {own back:List Int} {seen:Int} {j:Nat}:ks own back (((seen.toNat ||| (((1:Int) * 2 ^ j)).toNat:Nat):Int))=(ks own back seen).see j:=by
 unfold ks Ks.see;rw [zgL]
theorem zpA {own back:List Int} {seen:Int} {i j:Nat} (ho:j<own.length) (hb:i<back.length):ks (own.set j (i:Int)) (back.set i (j:Int)) seen=(ks own back seen).give j i:=by
 unfold ks Ks.give;rw [zkA ho,zkA hb]
section
variable {n:Nat} {adj:Nat→Nat→Prop} {p:crew_plan}
theorem zgQ (IP:IsPlan n adj p) {i:Nat} (hi:i<n):zaT p (i:Int)=some (flw n (fun j=>(p.next.getD i default).toNat.testBit j) 0):=by
 have hn:=IP.le
 have hl:=IP.len
 obtain ⟨h1,h2,_⟩:=IP.bits i hi
 unfold zaT
 rw [zdd (by omega),zmA (fun j=>(p.next.getD i default).toNat.testBit j) (fun j=>(j:Int)) (fun j r hj=>?_)]
 · unfold flw;rw [hl,Nat.sub_zero]
 · have e0:((i:Int)).toNat=i:=rfl
   have e1:((j:Int)).toNat=j:=rfl
   rw [e0,e1,zdd (by omega),zdd (by omega),zdd (zd3 h1 h2 hn),ze5 h1]
theorem zm2 (IP:IsPlan n adj p) (fuel:Nat):∀ (f i:Nat) (own back:List Int) (seen:Int),i<n→PS n own back→SB n seen→mu n (sb seen)<f →
 Wp (zbd fuel f (i:Int) p seen own back) (fun r=>PS n r.2.2.1 r.2.2.2∧SB n r.2.1∧Srch adj n i 0 (ks own back seen) r.1 (ks r.2.2.1 r.2.2.2 r.2.1)):=by
 have hn:=IP.le
 intro f
 induction f with
 | zero=>intro i own back seen _ _ _ h;omega
 | succ f ih=>
  intro i own back seen hi hP hS hmu
  show Wp (zbm fuel (zbd fuel f) (i:Int) p seen own back) _
  unfold zbm
  refine zaq (zgQ IP hi) ?_
  obtain ⟨_,_,hbit⟩:=IP.bits i hi
  refine zoT n _ (fun j s=>PS n s.1 s.2.1∧SB n s.2.2∧mu n (sb s.2.2)≤mu n (sb seen)∧∀ b s',Srch adj n i j (ks s.1 s.2.1 s.2.2) b s'→Srch adj n i 0 (ks own back seen) b s')
   ⟨hP,hS,Nat.le_refl _,fun _ _ h=>h⟩ (fun j s hj hW hI=>⟨hI.1,hI.2.1,hI.2.2.1,fun b s' h=>hI.2.2.2 b s' (.skip hj (fun ha=>by
    have:=(hbit j hj).2 ha
    rw [hW] at this;cases this) h)⟩) (fun j s K hj hW hI hK=>?_) (fun s hI=>zap ⟨hI.1,hI.2.1,hI.2.2.2 _ _ (.done (Nat.le_refl _))⟩)
  obtain ⟨own1,back1,seen1⟩:=s
  obtain ⟨hP1,hS1,hmu1,hsr⟩:=hI
  dsimp only at hP1 hS1 hmu1 hsr hK ⊢
  have hadj:=(hbit j hj).1 hW
  have e1:((j:Int)).toNat=j:=rfl
  have e2:((i:Int)).toNat=i:=rfl
  rw [e1,e2]
  have hp:=zgo hj hn
  refine zae (by omega) (zae (zd3 hS1.nn hS1.lt hn) ?_)
  rw [ze5 hS1.nn]
  refine zbS (fun hs=>hK _ ⟨hP1,hS1,hmu1,fun b s' h=>hsr b s' (.skip hj (fun _=>hs) h)⟩) (fun hs=>?_)
  have hol:=hP1.ol
  have hbl:=hP1.bl
  refine zae ⟨by omega,by omega,by unfold inI;omega⟩ (zae ⟨hS1.nn,hp.1,hS1.inI hn,by unfold inI;omega⟩ (zae (by omega) (zae (fun _=>by omega) ?_)))
  have hS2:=hS1.put hj
  have hsee:=@ks_see own1 back1 seen1 j
  have hmu2:mu n (sb (((seen1.toNat ||| (((1:Int) * 2 ^ j)).toNat:Nat):Int)))<mu n (sb seen1):=by
   rw [zgL]
   exact zom (j:=j) (fun k h=>by simp [h]) hj hs (by simp)
  generalize (((seen1.toNat ||| (((1:Int) * 2 ^ j)).toNat:Nat):Int))=seen2 at hS2 hsee hmu2
  have ho:own1.getD j default=ab own1 j:=(zmI (by omega)).symm
  rw [ho]
  have hok:=hP1.ok j hj
  refine wp_bind (Q:=fun y=>PS n y.2.2.1 y.2.2.2∧SB n y.2.1∧mu n (sb y.2.1)≤mu n (sb seen1)∧((ab own1 j<0∧y=(default,seen2,own1,back1))∨∃ o:Nat,ab own1 j=(o:Int)∧Srch adj n o 0 ((ks own1 back1 seen1).see j) y.1 (ks y.2.2.1 y.2.2.2 y.2.1))) ?_ (fun y hy=>?_)
  · by_cases h0:ab own1 j<0
    · rw [decide_eq_true h0]
      exact zap ⟨hP1,hS2,by dsimp only;omega,.inl ⟨h0,rfl⟩⟩
    · rw [decide_eq_false h0]
      obtain ⟨o,ho'⟩:=Int.eq_ofNat_of_zero_le (show 0≤ab own1 j by omega)
      rw [ho']
      refine (ih o own1 back1 seen2 (by omega) hP1 hS2 (by omega)).mono (fun r hr=>⟨hr.1,hr.2.1,?_,.inr ⟨o,rfl,by rw [← hsee];exact hr.2.2⟩⟩)
      have:=ziV (n:=n) hr.2.2.mono
      exact Nat.le_trans this (by show mu n (sb seen2)≤_;omega)
  · obtain ⟨b,seen3,own3,back3⟩:=y
    obtain ⟨hP3,hS3,hmu3,hy⟩:=hy
    dsimp only at hP3 hS3 hmu3 hy ⊢
    have hol3:=hP3.ol
    have hbl3:=hP3.bl
    refine zbS (fun hb=>?_) (fun hb=>?_)
    · refine zae (by omega) (zae (by omega) (zap ⟨⟨by rw [List.length_set];exact hol3,by rw [List.length_set];exact hbl3,fun k hk=>?_⟩,hS3,hsr _ _ ?_⟩))
      · show -1≤ab (own3.set j (i:Int)) k∧ab (own3.set j (i:Int)) k<n
        rw [zkA (by omega)]
        dsimp only
        split
        · omega
        · exact hP3.ok k hk
      · dsimp only
        rw [zpA (by omega) (by omega)]
        rcases hy with ⟨h0,e⟩|⟨o,h0,h1⟩
        · cases e
          rw [hsee]
          exact .free hj hadj hs h0
        · rw [decide_eq_false (by omega)] at hb
          have hb:b=true:=by simpa using hb
          subst hb
          exact .aug hj hadj hs h0 h1
    · refine hK _ ⟨hP3,hS3,by dsimp only;omega,fun b' s' h=>?_⟩
      rcases hy with ⟨h0,e⟩|⟨o,h0,h1⟩
      · rw [decide_eq_true h0] at hb;simp at hb
      · have hb2:b=false:=by
         cases b with
         | false=>rfl
         | true=>simp at hb
        subst hb2
        exact hsr _ _ (.fail hj hadj hs h0 h1 h)
theorem zkM (IP:IsPlan n adj p) {fuel:Nat} (hf:25≤fuel):Wp (zbE fuel p) (fun r=>PS n r.1 r.2∧∃ seen D,Kuhn adj n n ⟨seen,ab r.1,ab r.2⟩ D):=by
 have hn:=IP.le
 have hl:=IP.len
 unfold zbE
 rw [hl]
 have en:(((n:Nat):Int)).toNat=n:=rfl
 rw [en]
 refine zae ⟨by omega,by omega,by unfold room;omega⟩ (zae ⟨by omega,by omega,by unfold room;omega⟩ (zae (by simp;omega) ?_))
 rw [List.length_replicate]
 refine zaV (fun i s=>s.1.length=n∧s.2.length=n∧∀ k,k<i→ab s.1 k = -1∧ab s.2 k = -1) ⟨by simp,by simp,fun k hk=>by omega⟩ (fun i s K hi hI hK=>?_) (fun s hI=>?_)
 · obtain ⟨h1,h2,h3⟩:=hI
   refine zae (by omega) (zae (by omega) (hK _ ⟨by rw [List.length_set];exact h1,by rw [List.length_set];exact h2,fun k hk=>?_⟩))
   dsimp only
   rw [zkA (by omega),zkA (by omega)]
   dsimp only
   by_cases e:k=i
   · rw [if_pos e,if_pos e];exact ⟨rfl,rfl⟩
   · rw [if_neg e,if_neg e];exact h3 k (by omega)
 · obtain ⟨h1,h2,h3⟩:=hI
   have a1:∀ k,ab s.1 k = -1:=fun k=>if h:k<n then (h3 k h).1 else ab_ge (by omega)
   have a2:∀ k,ab s.2 k = -1:=fun k=>if h:k<n then (h3 k h).2 else ab_ge (by omega)
   refine zae (by omega) ?_
   refine zaV (fun i s=>PS n s.1 s.2∧∃ seen D,Kuhn adj n i ⟨seen,ab s.1,ab s.2⟩ D) ⟨⟨h1,h2,fun k hk=>by rw [a1 k];omega⟩,fun _=>false,_,Kuhn.start (fun k=>by show ab s.1 k<0;rw [a1 k];omega) (fun k=>by show ab s.2 k<0;rw [a2 k];omega)⟩ (fun i s K hi hI hK=>?_) (fun s hI=>zap hI)
   obtain ⟨hP,seen0,D,hKn⟩:=hI
   refine wp_bind (zm2 IP fuel fuel i s.1 s.2 0 hi hP (SB.zero n) (by have:=zon n (sb 0);omega)) (fun y hy=>?_)
   obtain ⟨hy1,hy2,hy3⟩:=hy
   refine hK (y.2.2.1,y.2.2.2) ⟨hy1,sb y.2.1,?_⟩
   have hK0:Kuhn adj n i (ks s.1 s.2 0) D:=⟨⟨hKn.mat.back,hKn.mat.own⟩,hKn.dead,hKn.lost,hKn.rest,hKn.lt⟩
   obtain ⟨D',hk,_⟩:=hK0.step (fun k=>by show (0:Int).toNat.testBit k=false;simp) hy3
   exact ⟨D',hk⟩
end
end Go.Sp
end
/- Chains and cuts: as many in the greatest cut as are nobody's. No program in sight. -/
section
set_option linter.all false
namespace Go.Sp
theorem zaQ {T:Type} (p:T→Bool) {l:List T} (h:l.Nodup):(l.filter p).Nodup:=List.Pairwise.filter p h
structure IsCut (adj:Nat→Nat→Prop) (n:Nat) (S:List Nat):Prop where
 nd:S.Nodup
 lt:∀ x∈S,x<n
 apart:∀ x∈S,∀ y∈S,¬ adj x y
def Most (adj:Nat→Nat→Prop) (n u:Nat):Prop:=(∃ S,IsCut adj n S∧S.length=u)∧∀ S,IsCut adj n S→S.length≤u
theorem Most.unique {adj:Nat→Nat→Prop} {n u v:Nat} (h:Most adj n u) (h':Most adj n v):u=v:=by
 obtain ⟨⟨S,h1,rfl⟩,h2⟩:=h
 obtain ⟨⟨S',h3,rfl⟩,h4⟩:=h'
 exact Nat.le_antisymm (h4 S h1) (h2 S' h3)
structure Ord (adj:Nat→Nat→Prop) (n:Nat) (rank:Nat→Int):Prop where
 lt:∀ x y,adj x y→x<n∧y<n
 up:∀ x y,adj x y→rank x<rank y
 trans:∀ x y z,adj x y→adj y z→adj x z
inductive Ch (back:Nat→Int):Nat→Nat→Prop
 | refl (x:Nat):Ch back x x
 | step {x y z:Nat}:back x=(y:Int)→Ch back y z→Ch back x z
theorem Ch.snoc {back:Nat→Int} {x y z:Nat} (h:Ch back x y):back y=(z:Int)→Ch back x z:=by
 induction h with
 | refl x=>exact fun h=>.step h (.refl _)
 | step h1 _ ih=>exact fun h=>.step h1 (ih h)
theorem Ch.last {back:Nat→Int} {x z:Nat} (h:Ch back x z):x=z∨∃ w,Ch back x w∧back w=(z:Int):=by
 induction h with
 | refl x=>exact .inl rfl
 | @step x y z h1 _ ih=>
  right
  rcases ih with rfl|⟨w,h2,h3⟩
  · exact ⟨x,.refl _,h1⟩
  · exact ⟨w,.step h1 h2,h3⟩
section
variable {adj:Nat→Nat→Prop} {n:Nat} {rank:Nat→Int} {s:Ks}
theorem Mat.edge {m:Nat} (M:Mat adj m s) {x y:Nat} (h:s.back x=(y:Int)):y<m∧s.own y=(x:Int)∧adj x y:=by
 obtain ⟨k,h1,h2,h3,h4⟩:=M.back x (by omega)
 have:k=y:=by omega
 subst this;exact ⟨h2,h3,h4⟩
theorem Ch.edge (M:Mat adj n s) (O:Ord adj n rank) {x y:Nat} (h:Ch s.back x y):x=y∨adj x y:=by
 induction h with
 | refl x=>exact .inl rfl
 | step h1 _ ih=>
  right
  have h3:=(M.edge h1).2.2
  rcases ih with rfl|h4
  · exact h3
  · exact O.trans _ _ _ h3 h4
theorem Ch.both (M:Mat adj n s) {x y t:Nat} (h:Ch s.back x t):Ch s.back y t→Ch s.back x y∨Ch s.back y x:=by
 induction h with
 | refl x=>exact fun h=>.inr h
 | @step x z t h1 _ ih=>
  intro h
  rcases ih h with h2|h2
  · exact .inl (.step h1 h2)
  · rcases h2.last with rfl|⟨w,h3,h4⟩
    · exact .inl (.step h1 (.refl _))
    · have e1:=(M.edge h1).2.1
      have e2:=(M.edge h4).2.1
      have:w=x:=by omega
      subst this;exact .inr h3
theorem zmP (M:Mat adj n s) (O:Ord adj n rank):∀ (b:Nat) (x:Nat),x<n→(∀ y,y<n→rank y≤rank x+b)→∃ t,t<n∧s.back t<0∧Ch s.back x t
 | 0,x,hx,hb=>by
  by_cases h:s.back x<0
  · exact ⟨x,hx,h,.refl _⟩
  · obtain ⟨y,hy⟩:=Int.eq_ofNat_of_zero_le (show 0≤s.back x by omega)
    obtain ⟨h1,_,h2⟩:=M.edge hy
    have:=O.up _ _ h2
    have:=hb y h1
    omega
 | b+1,x,hx,hb=>by
  by_cases h:s.back x<0
  · exact ⟨x,hx,h,.refl _⟩
  · obtain ⟨y,hy⟩:=Int.eq_ofNat_of_zero_le (show 0≤s.back x by omega)
    obtain ⟨h1,_,h2⟩:=M.edge hy
    have h3:=O.up _ _ h2
    obtain ⟨t,a,b',c⟩:=zmP M O b y h1 (fun z hz=>by have:=hb z hz;omega)
    exact ⟨t,a,b',.step hy c⟩
theorem ziq (rank:Nat→Int) (x:Nat):∀ n,∃ b:Nat,∀ y,y<n→rank y≤rank x+b
 | 0=>⟨0,fun y h=>by omega⟩
 | n+1=>by
  obtain ⟨b,hb⟩:=ziq rank x n
  refine ⟨b+(rank n - rank x).toNat,fun y hy=>?_⟩
  by_cases e:y=n
  · subst e;omega
  · have:=hb y (by omega);omega
def loose (n:Nat) (back:Nat→Int):List Nat:=(List.range n).filter (fun x=>decide (back x<0))
theorem zcn {n:Nat} {back:Nat→Int} {x:Nat}:x∈loose n back↔x<n∧back x<0:=by
 unfold loose;rw [List.mem_filter,List.mem_range,decide_eq_true_eq]
theorem zfB (n:Nat) (back:Nat→Int):(loose n back).Nodup:=zaQ _ List.nodup_range
theorem znI (M:Mat adj n s) (O:Ord adj n rank) {S:List Nat} (h:IsCut adj n S):S.length≤(loose n s.back).length:=by
 have ex:∀ x,∃ t,x<n→t<n∧s.back t<0∧Ch s.back x t:=fun x=>by
  by_cases hx:x<n
  · obtain ⟨b,hb⟩:=ziq rank x n
    obtain ⟨t,ht⟩:=zmP M O b x hx hb
    exact ⟨t,fun _=>ht⟩
  · exact ⟨0,fun h=>absurd h hx⟩
 obtain ⟨f,hf⟩:=Classical.axiomOfChoice ex
 refine zb9 f h.nd (fun x hx=>?_) (fun x hx y hy e=>?_)
 · obtain ⟨a,b,_⟩:=hf x (h.lt x hx);exact zcn.2 ⟨a,b⟩
 · have hx':=(hf x (h.lt x hx)).2.2
   have hy':=(hf y (h.lt y hy)).2.2
   rw [e] at hx'
   rcases Ch.both M hx' hy' with h1|h1
   · rcases h1.edge M O with h2|h2
     · exact h2
     · exact absurd h2 (h.apart x hx y hy)
   · rcases h1.edge M O with h2|h2
     · exact h2.symm
     · exact absurd h2 (h.apart y hy x hx)
theorem zdS {T:Type} (p:T→Bool):∀ l:List T,l.length=(l.filter p).length+(l.filter (fun x=>!p x)).length
 | []=>rfl
 | x::l=>by
  have:=zdS p l
  rw [List.filter_cons,List.filter_cons]
  cases p x <;> simp <;> omega
theorem cut_ex {D:Nat→Prop} (K:Kuhn adj n n s D) (ho:∀ k,k<n→s.own k<n):∃ S,IsCut adj n S∧(loose n s.back).length≤S.length:=by
 classical
 let A:Nat→Prop:=fun x=>s.back x<0∨∃ k,k<n∧D k∧s.own k=(x:Int)
 let Al:=(List.range n).filter (fun x=>decide (A x))
 let Dl:=(List.range n).filter (fun x=>decide (D x))
 have hA:∀ x,x<n→A x→∀ q,q<n→adj x q→D q:=by
  intro x hx ha q hq hadj
  rcases ha with h|⟨k,h1,h2,h3⟩
  · exact K.lost x hx h q hq hadj
  · obtain ⟨o,h4,h5⟩:=K.dead k h1 h2
    have:o=x:=by omega
    subst this;exact h5 q hq hadj
 refine ⟨Al.filter (fun x=>!decide (D x)),⟨zaQ _ (zaQ _ List.nodup_range),fun x hx=>?_,fun x hx y hy hadj=>?_⟩,?_⟩
 · simp only [Al,List.mem_filter,List.mem_range] at hx;exact hx.1.1
 · simp only [Al,List.mem_filter,List.mem_range,decide_eq_true_eq,Bool.not_eq_true',decide_eq_false_iff_not] at hx hy
   exact hy.2 (hA x hx.1.1 hx.1.2 y hy.1.1 hadj)
 · have h1:=zdS (fun x=>decide (D x)) Al
   have h2:(Al.filter (fun x=>decide (D x))).length≤Dl.length:=zdu (r:=Dl) (zaQ _ (zaQ _ List.nodup_range)) (fun x hx=>by
    simp only [Al,List.mem_filter,List.mem_range,decide_eq_true_eq] at hx
    simp only [Dl,List.mem_filter,List.mem_range,decide_eq_true_eq];exact ⟨hx.1.1,hx.2⟩)
   have h3:(loose n s.back++Dl.map (fun k=>(s.own k).toNat)).length≤Al.length:=by
    refine zdu (r:=Al) (List.nodup_append.2 ⟨zfB _ _,zdC (zaQ _ List.nodup_range) (fun x hx y hy e=>?_),fun x hx y hy e=>?_⟩) (fun x hx=>?_)
    · simp only [Dl,List.mem_filter,List.mem_range,decide_eq_true_eq] at hx hy
      obtain ⟨o,h4,_⟩:=K.dead x hx.1 hx.2
      obtain ⟨o',h5,_⟩:=K.dead y hy.1 hy.2
      obtain ⟨a,a1,a2⟩:=K.mat.own x hx.1 (by omega)
      obtain ⟨b,b1,b2⟩:=K.mat.own y hy.1 (by omega)
      have:a=b:=by omega
      subst this;omega
    · have hx:=zcn.1 hx
      obtain ⟨k,hk,rfl⟩:=List.mem_map.1 hy
      simp only [Dl,List.mem_filter,List.mem_range,decide_eq_true_eq] at hk
      obtain ⟨o,h4,_⟩:=K.dead k hk.1 hk.2
      obtain ⟨a,a1,a2⟩:=K.mat.own k hk.1 (by omega)
      have:x=a:=by omega
      subst this;omega
    · rcases List.mem_append.1 hx with hx|hx
      · have hx:=zcn.1 hx
        simp only [Al,List.mem_filter,List.mem_range,decide_eq_true_eq];exact ⟨hx.1,.inl hx.2⟩
      · obtain ⟨k,hk,rfl⟩:=List.mem_map.1 hx
        simp only [Dl,List.mem_filter,List.mem_range,decide_eq_true_eq] at hk
        obtain ⟨o,h4,_⟩:=K.dead k hk.1 hk.2
        have:=ho k hk.1
        simp only [Al,List.mem_filter,List.mem_range,decide_eq_true_eq]
        exact ⟨by omega,.inr ⟨k,hk.1,hk.2,by omega⟩⟩
   rw [List.length_append,List.length_map] at h3
   omega
theorem zhE {D:Nat→Prop} (K:Kuhn adj n n s D) (O:Ord adj n rank) (ho:∀ k,k<n→s.own k<n):Most adj n (loose n s.back).length:=by
 obtain ⟨S,h1,h2⟩:=cut_ex K ho
 have:=znI K.mat O h1
 exact ⟨⟨S,h1,by omega⟩,fun S hS=>znI K.mat O hS⟩
theorem zjV (M:Mat adj n s) (hb:∀ x,n≤x→s.back x<0) (ho:∀ k,k<n→s.own k<n):(loose n s.own).length=(loose n s.back).length:=by
 have taken:∀ f:Nat→Int,n=(loose n f).length+((List.range n).filter (fun x=>!decide (f x<0))).length:=fun f=>by
  have:=zdS (fun x=>decide (f x<0)) (List.range n)
  rwa [List.length_range] at this
 have t1:=taken s.own
 have t2:=taken s.back
 have le1:((List.range n).filter (fun x=>!decide (s.own x<0))).length≤((List.range n).filter (fun x=>!decide (s.back x<0))).length:=by
  refine zb9 (fun k=>(s.own k).toNat) (zaQ _ List.nodup_range) (fun k hk=>?_) (fun k hk q hq e=>?_)
  · simp only [List.mem_filter,List.mem_range,Bool.not_eq_true',decide_eq_false_iff_not] at hk ⊢
    obtain ⟨x,h1,h2⟩:=M.own k hk.1 (by omega)
    have:=ho k hk.1
    have e:(s.own k).toNat=x:=by omega
    rw [e];omega
  · simp only [List.mem_filter,List.mem_range,Bool.not_eq_true',decide_eq_false_iff_not] at hk hq
    obtain ⟨x,h1,h2⟩:=M.own k hk.1 (by omega)
    obtain ⟨y,h3,h4⟩:=M.own q hq.1 (by omega)
    have:x=y:=by omega
    subst this;omega
 have le2:((List.range n).filter (fun x=>!decide (s.back x<0))).length≤((List.range n).filter (fun x=>!decide (s.own x<0))).length:=by
  refine zb9 (fun k=>(s.back k).toNat) (zaQ _ List.nodup_range) (fun k hk=>?_) (fun k hk q hq e=>?_)
  · simp only [List.mem_filter,List.mem_range,Bool.not_eq_true',decide_eq_false_iff_not] at hk ⊢
    obtain ⟨x,h1,h2,h3,_⟩:=M.back k (by omega)
    have e:(s.back k).toNat=x:=by omega
    rw [e];omega
  · simp only [List.mem_filter,List.mem_range,Bool.not_eq_true',decide_eq_false_iff_not] at hk hq
    obtain ⟨x,h1,h2,h3,_⟩:=M.back k (by omega)
    obtain ⟨y,h4,h5,h6,_⟩:=M.back q (by omega)
    have:x=y:=by omega
    subst this;omega
 omega
theorem zmY {D:Nat→Prop} (K:Kuhn adj n n s D) (F T:Nat→Bool) (hF:∀ x,x<n→s.back x<0→F x=true) (hFT:∀ x,x<n→F x=true→∀ y,y<n→adj x y→T y=true)
 (hT:∀ y,y<n→T y=true→D y∧F (s.own y).toNat=true) (ho:∀ k,k<n→s.own k<n):IsCut adj n ((List.range n).filter (fun x=>F x && !T x))∧(loose n s.back).length≤((List.range n).filter (fun x=>F x && !T x)).length:=by
 refine ⟨⟨zaQ _ List.nodup_range,fun x hx=>?_,fun x hx y hy hadj=>?_⟩,?_⟩
 · simp only [List.mem_filter,List.mem_range] at hx;exact hx.1
 · simp only [List.mem_filter,List.mem_range,Bool.and_eq_true,Bool.not_eq_true'] at hx hy
   have:=hFT x hx.1 hx.2.1 y hy.1 hadj
   rw [hy.2.2] at this;cases this
 · have h1:=zdS T ((List.range n).filter F)
   have h2:(((List.range n).filter F).filter T).length≤((List.range n).filter T).length:=zdu (zaQ _ (zaQ _ List.nodup_range)) (fun x hx=>by
    simp only [List.mem_filter,List.mem_range] at hx ⊢;exact ⟨hx.1.1,hx.2⟩)
   have h4:((List.range n).filter F).filter (fun x=>!T x)=(List.range n).filter (fun x=>F x && !T x):=by
    rw [List.filter_filter]
    exact List.filter_congr (fun x _=>Bool.and_comm _ _)
   rw [h4] at h1
   have h3:(loose n s.back++((List.range n).filter T).map (fun k=>(s.own k).toNat)).length≤((List.range n).filter F).length:=by
    refine zdu (List.nodup_append.2 ⟨zfB _ _,zdC (zaQ _ List.nodup_range) (fun x hx y hy e=>?_),fun x hx y hy e=>?_⟩) (fun x hx=>?_)
    · simp only [List.mem_filter,List.mem_range] at hx hy
      obtain ⟨o,h4,_⟩:=K.dead x hx.1 (hT x hx.1 hx.2).1
      obtain ⟨o',h5,_⟩:=K.dead y hy.1 (hT y hy.1 hy.2).1
      obtain ⟨a,a1,a2⟩:=K.mat.own x hx.1 (by omega)
      obtain ⟨b,b1,b2⟩:=K.mat.own y hy.1 (by omega)
      have:a=b:=by omega
      subst this;omega
    · have hx:=zcn.1 hx
      obtain ⟨k,hk,rfl⟩:=List.mem_map.1 hy
      simp only [List.mem_filter,List.mem_range] at hk
      obtain ⟨o,h4,_⟩:=K.dead k hk.1 (hT k hk.1 hk.2).1
      obtain ⟨a,a1,a2⟩:=K.mat.own k hk.1 (by omega)
      have:x=a:=by omega
      subst this;omega
    · rcases List.mem_append.1 hx with hx|hx
      · have hx:=zcn.1 hx
        simp only [List.mem_filter,List.mem_range];exact ⟨hx.1,hF x hx.1 hx.2⟩
      · obtain ⟨k,hk,rfl⟩:=List.mem_map.1 hx
        simp only [List.mem_filter,List.mem_range] at hk
        obtain ⟨o,h4,_⟩:=K.dead k hk.1 (hT k hk.1 hk.2).1
        have:=ho k hk.1
        simp only [List.mem_filter,List.mem_range]
        exact ⟨by omega,(hT k hk.1 hk.2).2⟩
   rw [List.length_append,List.length_map] at h3
   omega
end
end Go.Sp
end
/- Plain laws, crew: the chapter's search, and the numbers of rounds. No program in sight. -/
section
set_option linter.all false
namespace Go.Sp
open Go.Av
set_option maxRecDepth 100000
theorem zhd:(fun x0=>some (zbM x0))=fun x=>some (Range.Hi x):=rfl
def sl (l:List Bool):Nat→Bool:=fun k=>l.getD k false
structure OS (n:Nat) (own:List Int):Prop where
 ol:own.length=n
 ok:∀ k,k<n → -1≤ab own k∧ab own k<n
theorem zk2 {c:Crew} (V:Valid c) {e:Range→Int} (he:zg5 e):Ord (fol c e) c.Tasks.length (fun x=>(tk c x).At):=
 ⟨fun _ _ h=>⟨h.1,h.2.1⟩,fun _ _ h=>zo5 V he h,fun _ _ _ h1 h2=>zj8 V he h1 h2⟩
def lc (back:Nat→Int) (i:Nat):Nat:=(loose i back).length
theorem zpy (back:Nat→Int) (i:Nat):lc back (i+1)=lc back i+if back i<0 then 1 else 0:=by
 unfold lc loose
 rw [List.range_succ,List.filter_append,List.length_append,List.filter_cons]
 split <;> rename_i h <;> simp at h <;> simp [h]
theorem zoF {n:Nat} {adj:Nat→Nat→Prop} {p:crew_plan} {rank:Nat→Int} (IP:IsPlan n adj p) (O:Ord adj n rank) {fuel:Nat} (hf:25≤fuel):Wp (zbr fuel p) (fun r=>∃ u:Nat,r=(u:Int)∧Most adj n u):=by
 have hn:=IP.le
 unfold zbr
 refine wp_bind (zkM IP hf) (fun y hy=>?_)
 obtain ⟨hP,seen,D,hK⟩:=hy
 have hol:=hP.ol
 refine zaV (fun i s=>s=(lc (ab y.1) i:Int)) rfl (fun i s K hi hI hK'=>?_) (fun s hI=>?_)
 · subst hI
   have hl:=zpy (ab y.1) i
   have e:y.1.getD i default=ab y.1 i:=(zmI hi).symm
   rw [e]
   have:lc (ab y.1) i≤i:=by unfold lc loose;exact Nat.le_trans (List.length_filter_le _ _) (by simp)
   refine zcA (fun h=>?_) (fun h=>?_)
   · rw [if_pos h] at hl
     exact zat (by omega) (hK' _ (by omega))
   · rw [if_neg h] at hl
     exact hK' _ (by omega)
 · subst hI
   refine zap ⟨_,rfl,?_⟩
   have h1:=zhE hK O (fun k hk=>(hP.ok k hk).2)
   have h2:=zjV hK.mat hK.rest (fun k hk=>(hP.ok k hk).2)
   unfold lc
   rw [hol,h2];exact h1
noncomputable def nr (c:Crew) (e:Range→Int):Nat:=@dite _ (∃ u,Most (fol c e) c.Tasks.length u) (Classical.propDecidable _) (fun h=>Classical.choose h) (fun _=>0)
theorem zps {c:Crew} {e:Range→Int} {u:Nat} (h:Most (fol c e) c.Tasks.length u):nr c e=u:=by
 unfold nr
 rw [dif_pos ⟨u,h⟩]
 exact (Classical.choose_spec (⟨u,h⟩:∃ u,Most (fol c e) c.Tasks.length u)).unique h
theorem zm1 {c:Crew} (V:Valid c) {e:Range→Int} (he:zg5 e) {p:crew_plan} (IP:IsPlan c.Tasks.length (fol c e) p) {fuel:Nat} (hf:25≤fuel):zbr fuel p=some (nr c e:Int)∧Most (fol c e) c.Tasks.length (nr c e):=by
 obtain ⟨r,h1,u,rfl,h2⟩:=zoF IP (zk2 V he) hf
 rw [zps h2];exact ⟨h1,h2⟩
theorem zpu {c:Crew} (V:Valid c) {e:Range→Int} (he:zg5 e):Most (fol c e) c.Tasks.length (nr c e):=by
 obtain ⟨_,_,p,_,_,IP⟩:=zec V he
 exact (zm1 V he IP (Nat.le_refl 25)).2
end Go.Sp
end
/- Plain laws, crew: what rounds and cuts are accepted. No program in sight. -/
section
set_option linter.all false
namespace Go.Sp
open Go.Av
set_option maxRecDepth 100000
theorem zd5 {T:Type} [Inhabited T] {l:List T} {k:Nat} (h:k<l.length):l.take (k+1)=l.take k++[l.getD k default]:=by
 rw [List.take_add_one,List.getElem?_eq_getElem h,List.getD_eq_getElem?_getD,List.getElem?_eq_getElem h];rfl
noncomputable def ck {T:Type} (p:Prop) (a b:T):T:=@ite _ p (Classical.propDecidable p) a b
theorem zej {T:Type} {p:Prop} (h:p) (a b:T):ck p a b=a:=if_pos h
theorem zeY {T:Type} {p:Prop} (h:¬ p) (a b:T):ck p a b=b:=if_neg h
theorem zpc {T:Type} {x:Option T} {p:Prop} {a b:T} (h:Wp x (fun r=>(p∧r=a)∨(¬ p∧r=b))):x=some (ck p a b):=by
 refine Wp.eq (h.mono (fun r hr=>?_))
 rcases hr with ⟨q,rfl⟩|⟨q,rfl⟩
 · exact (zej q _ _).symm
 · exact (zeY q _ _).symm
structure IsRound (adj:Nat→Nat→Prop) (n:Nat) (l:List Int):Prop where
 ne:0<l.length
 rng:∀ k,k<l.length→0≤l.getD k default∧l.getD k default<n
 link:∀ k,0<k→k<l.length→adj (l.getD (k - 1) default).toNat (l.getD k default).toNat
def rd (ls:List (List Int)) (k:Nat):List Int:=ls.getD k default
def Fit (ls:List (List Int)):Prop:=ls.length≤9223372036854775807∧∀ k,k<ls.length→(rd ls k).length≤9223372036854775807
def flat (ls:List (List Int)) (k:Nat):List Int:=(ls.take k).flatten
structure AreRounds (adj:Nat→Nat→Prop) (n:Nat) (ls:List (List Int)):Prop where
 round:∀ k,k<ls.length→IsRound adj n (rd ls k)
 heads:∀ k,0<k→k<ls.length→(rd ls (k - 1)).getD 0 default<(rd ls k).getD 0 default
 nd:ls.flatten.Nodup
 all:∀ x:Nat,x<n→(x:Int)∈ls.flatten
theorem zhM {ls:List (List Int)} {k:Nat} (h:k<ls.length):flat ls (k+1)=flat ls k++rd ls k:=by
 unfold flat rd
 rw [zd5 h,List.flatten_append,List.flatten_singleton]
theorem zlX (ls:List (List Int)):flat ls ls.length=ls.flatten:=by unfold flat;rw [List.take_length]
theorem zi7 {ls:List (List Int)} {k m:Nat} (h:k<ls.length):∃ r,ls.flatten=(flat ls k++(rd ls k).take m)++r:=by
 refine ⟨(rd ls k).drop m++(ls.drop (k+1)).flatten,?_⟩
 have e:ls.flatten=flat ls (k+1)++(ls.drop (k+1)).flatten:=by
  unfold flat;rw [← List.flatten_append,List.take_append_drop]
 rw [e,zhM h]
 conv=>lhs;rw [← List.take_append_drop m (rd ls k)]
 simp only [List.append_assoc]
section
variable {n:Nat} {adj:Nat→Nat→Prop} {p:crew_plan}
theorem zmt (IP:IsPlan n adj p) (l:List Int) (hll:l.length≤9223372036854775807):Wp (zbL p l) (fun r=>r=true↔IsRound adj n l):=by
 have hn:=IP.le
 have hl:=IP.len
 unfold zbL
 rw [hl]
 refine zaN (fun k=>(0≤l.getD k default∧l.getD k default<n)∧(0<k→adj (l.getD (k - 1) default).toNat (l.getD k default).toNat)) (fun k K hk hpre hK=>?_) (fun h=>?_)
 · have e:(((k:Int) - 1)).toNat=k - 1:=by omega
   rw [e]
   by_cases hin:0≤l.getD k default∧l.getD k default<n
   · have h1:zaH (l.getD k default) 0 (((n:Nat):Int) - 1)=true:=zeD.2 (by omega)
     rw [h1]
     by_cases h0:0<k
     · have hp:=(hpre (k - 1) (by omega)).1
       obtain ⟨a,ha⟩:=Int.eq_ofNat_of_zero_le hp.1
       obtain ⟨b,hb⟩:=Int.eq_ofNat_of_zero_le hin.1
       have hpa:a<n:=by omega
       have hpb:b<n:=by omega
       have ea:((a:Int)).toNat=a:=rfl
       have eb:((b:Int)).toNat=b:=rfl
       have lk:adj (l.getD (k - 1) default).toNat (l.getD k default).toNat↔adj a b:=by rw [ha,hb,ea,eb]
       rw [ha,hb,ea,eb]
       obtain ⟨q1,q2,q3⟩:=IP.bits a hpa
       refine zat (by omega) (zae (fun _=>by unfold inI;omega) (zae (fun _=>by omega) (zae (fun _=>by omega) (zae (fun _=>by omega) (zae (fun _=>zd3 q1 q2 hn) ?_)))))
       rw [zmb q1,decide_eq_true (show (0:Int)<(k:Int) by omega)]
       refine zbS (fun h=>zap ⟨fun h'=>(by cases h'),fun R=>?_⟩) (fun h=>?_)
       · have:=lk.1 (R.link k h0 hk)
         have:=(q3 b hpb).2 this
         rw [this] at h;cases h
       · refine hK ⟨hin,fun _=>lk.2 ((q3 b hpb).1 ?_)⟩
         simpa using h
     · rw [decide_eq_false (show ¬ (0:Int)<(k:Int) by omega)]
       refine zat (by omega) (zae (fun h=>by cases h) (zae (fun h=>by cases h) (zae (fun h=>by cases h) (zae (fun h=>by cases h) (zae (fun h=>by cases h) ?_)))))
       exact zay rfl (hK ⟨hin,fun h=>absurd h h0⟩)
   · have h1:zaH (l.getD k default) 0 (((n:Nat):Int) - 1)=false:=by
      cases h:zaH (l.getD k default) 0 (((n:Nat):Int) - 1) with
      | false=>rfl
      | true=>exfalso;have:=zeD.1 h;omega
     rw [h1]
     refine zat (by omega) (zae (fun h=>by cases h) (zae (fun h=>by cases h) (zae (fun h=>by cases h) (zae (fun h=>by cases h) (zae (fun h=>by cases h) ?_)))))
     exact zbU rfl (zap ⟨fun h'=>(by cases h'),fun R=>absurd (R.rng k hk) hin⟩)
 · exact zap (by
    rw [decide_eq_true_eq]
    exact ⟨fun h0=>⟨by omega,fun k hk=>(h k hk).1,fun k h1 h2=>(h k h2).2 h1⟩,fun R=>by have:=R.ne;omega⟩)
theorem znn {x n:Nat} (h:x<2 ^ n):x=2 ^ n - 1↔∀ j,j<n→x.testBit j=true:=by
 constructor
 · rintro rfl j hj;rw [Nat.testBit_two_pow_sub_one];exact decide_eq_true hj
 · intro hb
   refine Nat.eq_of_testBit_eq (fun j=>?_)
   rw [Nat.testBit_two_pow_sub_one]
   by_cases hj:j<n
   · rw [hb j hj,decide_eq_true hj]
   · rw [decide_eq_false hj]
     exact Nat.testBit_lt_two_pow (Nat.lt_of_lt_of_le h (Nat.pow_le_pow_right (by omega) (by omega)))
theorem zkz (IP:IsPlan n adj p) (ls:List (List Int)) (hF:Fit ls):Wp (zbu p ls) (fun r=>r=true↔AreRounds adj n ls):=by
 have hn:=IP.le
 have hl:=IP.len
 unfold zbu
 rw [hl]
 refine zaV (fun i s=>SB n s∧(∀ k,k<i→IsRound adj n (rd ls k))∧(∀ k,0<k→k<i→(rd ls (k - 1)).getD 0 default<(rd ls k).getD 0 default)∧(flat ls i).Nodup∧∀ x:Nat,x<n→(sb s x=true↔(x:Int)∈flat ls i))
  ⟨SB.zero n,fun k hk=>by omega,fun k _ hk=>by omega,List.nodup_nil,fun x _=>by unfold sb flat;simp⟩ (fun i s K hi hI hK=>?_) (fun s hI=>?_)
 · obtain ⟨hS,hR,hH,hN,hB⟩:=hI
   have er:ls.getD i default=rd ls i:=rfl
   have e:(((i:Int) - 1)).toNat=i - 1:=by omega
   have er2:ls.getD (i - 1) default=rd ls (i - 1):=rfl
   rw [e,er,er2]
   refine wp_bind (zmt IP (rd ls i) (hF.2 i hi)) (fun y hy=>?_)
   cases y with
   | false=>
    refine zae (fun h=>by cases h) (zae (fun h=>by cases h) (zae (fun h=>by cases h) (zae (fun h=>by cases h) (zbU rfl (zap ⟨fun h=>(by cases h),fun A=>?_⟩)))))
    have:=hy.2 (A.round i hi);cases this
   | true=>
    have hRi:=hy.1 rfl
    have hne:=hRi.ne
    have hpp:0<i→0<(rd ls (i - 1)).length:=fun h=>(hR (i - 1) (by omega)).ne
    refine zae (fun _=>by have:=hF.1;unfold inI;omega) (zae (fun h=>by simp at h;omega) (zae (fun h=>by have:=hpp (by simpa using h);omega) (zae (fun h=>by omega) ?_)))
    refine zbS (fun h=>zap ⟨fun h=>(by cases h),fun A=>?_⟩) (fun h=>?_)
    · simp only [Bool.not_true,Bool.false_or,Bool.and_eq_true,decide_eq_true_eq] at h
      have:=A.heads i (by omega) hi
      omega
    · simp only [Bool.not_true,Bool.false_or,Bool.and_eq_false_iff,decide_eq_false_iff_not] at h
      have hhead:0<i→(rd ls (i - 1)).getD 0 default<(rd ls i).getD 0 default:=fun h0=>by rcases h with h|h <;> omega
      refine zaV (fun m s=>SB n s∧(flat ls i++(rd ls i).take m).Nodup∧∀ x:Nat,x<n→(sb s x=true↔(x:Int)∈flat ls i++(rd ls i).take m)) ⟨hS,by simpa using hN,by simpa using hB⟩ (fun m s K' hm hI' hK'=>?_) (fun s hI'=>?_)
      · obtain ⟨hS',hN',hB'⟩:=hI'
        obtain ⟨b1,b2⟩:=hRi.rng m hm
        obtain ⟨b,hb⟩:=Int.eq_ofNat_of_zero_le b1
        rw [hb]
        have eb:((b:Int)).toNat=b:=rfl
        rw [eb]
        have hbn:b<n:=by omega
        have hp:=zgo hbn hn
        refine zae (by omega) (zae (zd3 hS'.nn hS'.lt hn) ?_)
        rw [ze5 hS'.nn]
        refine zbS (fun h=>zap ⟨fun h=>(by cases h),fun A=>?_⟩) (fun h=>?_)
        · exfalso
          obtain ⟨r,hr⟩:=zi7 (m:=m+1) hi
          have hnd:=A.nd
          rw [hr,zd5 hm,hb,← List.append_assoc] at hnd
          have:=(List.nodup_append.1 hnd).1
          exact (List.nodup_append.1 this).2.2 (b:Int) ((hB' b hbn).1 h) (b:Int) (by simp) rfl
        · refine zae ⟨by omega,by omega,by unfold inI;omega⟩ (zae ⟨hS'.nn,hp.1,hS'.inI hn,by unfold inI;omega⟩ (hK' _ ⟨hS'.put hbn,?_,fun x hx=>?_⟩))
          · rw [zd5 hm,hb,← List.append_assoc,List.nodup_append]
            refine ⟨hN',by simp,fun x hx y hy e=>?_⟩
            have hy:y=(b:Int):=by simpa using hy
            subst hy e
            have t':s.toNat.testBit b=true:=(hB' b hbn).2 hx
            rw [h] at t';cases t'
          · rw [zgL,zd5 hm,hb,← List.append_assoc,List.mem_append,Bool.or_eq_true,hB' x hx,decide_eq_true_eq,List.mem_singleton]
            constructor
            · rintro (h|h)
              · exact .inl h
              · exact .inr (by omega)
            · rintro (h|h)
              · exact .inl h
              · exact .inr (by omega)
      · obtain ⟨hS',hN',hB'⟩:=hI'
        rw [List.take_length] at hN' hB'
        rw [← zhM hi] at hN' hB'
        refine hK _ ⟨hS',fun k hk=>?_,fun k h0 hk=>?_,hN',hB'⟩
        · by_cases e:k=i
          · subst e;exact hRi
          · exact hR k (by omega)
        · by_cases e:k=i
          · subst e;exact hhead h0
          · exact hH k h0 (by omega)
 · obtain ⟨hS,hR,hH,hN,hB⟩:=hI
   rw [zlX] at hN hB
   have en:(((n:Nat):Int)).toNat=n:=rfl
   have hp:((1:Int) * 2 ^ n)=((2 ^ n:Nat):Int):=zhu n
   have hp2:=zm0 hn
   have hp3:0<2 ^ n:=Nat.pow_pos (by omega)
   rw [en,hp]
   have hfb:=znn hS.lt
   have hs0:=hS.nn
   generalize 2 ^ n=q at *
   refine zae ⟨by omega,by omega,by unfold inI;omega⟩ (zat (by omega) (zap ?_))
   rw [decide_eq_true_eq]
   constructor
   · intro h
     have h2:=hfb.1 (by omega)
     exact ⟨hR,hH,hN,fun x hx=>(hB x hx).1 (h2 x hx)⟩
   · intro A
     have:=hfb.2 (fun j hj=>(hB j hj).2 (A.all j hj))
     omega
end
section
variable {c:Crew}
theorem IsRound.at_lt (V:Valid c) {l:List Int} (R:IsRound (fol c Range.Hi) c.Tasks.length l):∀ (b a:Nat),a<b→b<l.length→fol c Range.Hi (l.getD a default).toNat (l.getD b default).toNat
 | 0,a,h,_=>by omega
 | b+1,a,h,hb=>by
  have h1:=R.link (b+1) (by omega) hb
  rw [show b+1 - 1=b by omega] at h1
  by_cases e:a=b
  · subst e;exact h1
  · exact zj8 V (.inr rfl) (IsRound.at_lt V R b a (by omega) (by omega)) h1
theorem IsRound.nodup (V:Valid c) {l:List Int} (R:IsRound (fol c Range.Hi) c.Tasks.length l):l.Nodup:=by
 show List.Pairwise (· ≠ ·) l
 rw [List.pairwise_iff_getElem]
 intro i j hi hj hij e
 have h:=R.at_lt V j i hij hj
 have:l.getD i default=l.getD j default:=by rw [List.getD_eq_getElem?_getD,List.getD_eq_getElem?_getD,List.getElem?_eq_getElem hi,List.getElem?_eq_getElem hj,e]
 rw [this] at h
 exact ziw V (.inr rfl) h
theorem zhg (c:Crew) (ls:List (List Int)) (hF:Fit ls):Wp (zb0 c ls) (fun r=>(¬ Valid c∧r=(none,42))∨(Valid c∧¬ AreRounds (fol c Range.Hi) c.Tasks.length ls∧r=(none,43)) ∨
 (Valid c∧AreRounds (fol c Range.Hi) c.Tasks.length ls∧∃ p,r=(some p,0)∧p.Crew=c∧IsPlan c.Tasks.length (fol c Range.Hi) p)):=by
 unfold zb0
 refine zaq (zf3 c) ?_
 by_cases V:Valid c
 · rw [zek V]
   refine zay rfl ?_
   rw [zhd]
   refine wp_bind (zec V (.inr rfl)) (fun y hy=>?_)
   obtain ⟨p,rfl,hpc,IP⟩:=hy
   refine zae rfl (wp_bind (zkz IP ls hF) (fun y hy=>?_))
   cases y with
   | false=>exact zbU rfl (zap (.inr (.inl ⟨V,fun A=>(by have:=hy.2 A;cases this),rfl⟩)))
   | true=>exact zay rfl (zap (.inr (.inr ⟨V,hy.1 rfl,p,rfl,hpc,IP⟩)))
 · rw [zlk V]
   exact zbU rfl (zap (.inl ⟨V,rfl⟩))
noncomputable def ckR (c:Crew) (ls:List (List Int)):Int:=ck (Valid c) (ck (AreRounds (fol c Range.Hi) c.Tasks.length ls) 0 43) 42
theorem zoH {c:Crew} {ls:List (List Int)}:ckR c ls=0↔Valid c∧AreRounds (fol c Range.Hi) c.Tasks.length ls:=by
 unfold ckR
 by_cases V:Valid c
 · rw [zej V]
   by_cases A:AreRounds (fol c Range.Hi) c.Tasks.length ls
   · rw [zej A];exact ⟨fun _=>⟨V,A⟩,fun _=>rfl⟩
   · rw [zeY A];exact ⟨fun h=>(by cases h),fun h=>absurd h.2 A⟩
 · rw [zeY V];exact ⟨fun h=>(by cases h),fun h=>absurd h.1 V⟩
theorem zie (c:Crew) (ls:List (List Int)) (hF:Fit ls):zcf c ls=some (ckR c ls):=by
 refine Wp.eq ?_
 unfold zcf
 refine wp_bind (zhg c ls hF) (fun y hy=>zap ?_)
 unfold ckR
 rcases hy with ⟨h,rfl⟩|⟨h,h2,rfl⟩|⟨h,h2,p,rfl,_⟩
 · rw [zeY h]
 · rw [zej h,zeY h2]
 · rw [zej h,zej h2]
end
end Go.Sp
end
/- Plain laws, crew: cuts; the rounds and the cut that are returned. No program in sight. -/
section
set_option linter.all false
namespace Go.Sp
open Go.Av
set_option maxRecDepth 100000
structure CutL (adj:Nat→Nat→Prop) (n:Nat) (S:List Int):Prop where
 rng:∀ k,k<S.length→0≤S.getD k default∧S.getD k default<n
 asc:∀ k,0<k→k<S.length→S.getD (k - 1) default<S.getD k default
 apart:∀ m k,m<k→k<S.length→¬ adj (S.getD k default).toNat (S.getD m default).toNat∧¬ adj (S.getD m default).toNat (S.getD k default).toNat
noncomputable def ckC (c:Crew) (S:List Int) (z:Int):Int:=ck (Valid c) (ck (CutL (fol c Range.Hi) c.Tasks.length S∧z≤S.length) 0 44) 42
theorem zll (c:Crew) (S:List Int) (z:Int) (hS:S.length≤9223372036854775807):zc0 c S z=some (ckC c S z):=by
 refine Wp.eq ?_
 unfold zc0 ckC
 refine zaq (zf3 c) ?_
 by_cases V:Valid c
 · rw [zek V,zej V]
   have hn:=V.tasks
   refine zay rfl ?_
   rw [zhd]
   refine wp_bind (zec V (.inr rfl)) (fun y hy=>?_)
   obtain ⟨p,rfl,hpc,IP⟩:=hy
   have hl:=IP.len
   have ep:(some p).getD default=p:=rfl
   rw [ep,hl]
   refine zaN (fun k=>(0≤S.getD k default∧S.getD k default<c.Tasks.length)∧(0<k→S.getD (k - 1) default<S.getD k default)∧∀ m,m<k→¬ fol c Range.Hi (S.getD k default).toNat (S.getD m default).toNat∧¬ fol c Range.Hi (S.getD m default).toNat (S.getD k default).toNat) (fun k K hk hpre hK=>?_) (fun h=>?_)
   · have e:(((k:Int) - 1)).toNat=k - 1:=by omega
     have ek:((k:Int)).toNat=k:=rfl
     rw [e]
     refine zae rfl (zat (by omega) (zae (fun _=>by unfold inI;omega) (zae (fun h=>by simp at h;omega) ?_)))
     refine zbS (fun h=>zap ?_) (fun h=>?_)
     · rw [zeY (fun A=>?_)]
       have h1:=A.1.rng k hk
       simp only [Bool.or_eq_true,Bool.not_eq_true',Bool.and_eq_true,decide_eq_true_eq] at h
       rcases h with h|h
       · rw [zeD.2 (by omega)] at h;cases h
       · have:=A.1.asc k (by omega) hk;omega
     · simp only [Bool.or_eq_false_iff,Bool.not_eq_false',Bool.and_eq_false_iff,decide_eq_false_iff_not] at h
       have hin:=zeD.1 h.1
       have hin:0≤S.getD k default∧S.getD k default<c.Tasks.length:=by omega
       refine zae (by omega) ?_
       have hlen:(S.take k).length=k:=by rw [List.length_take];omega
       rw [hlen]
       refine zaN (fun m=>¬ fol c Range.Hi (S.getD k default).toNat (S.getD m default).toNat∧¬ fol c Range.Hi (S.getD m default).toNat (S.getD k default).toNat) (fun m K' hm _ hK'=>?_) (fun h2=>hK ⟨hin,fun h0=>by rcases h.2 with h|h <;> omega,h2⟩)
       have em:(S.take k).getD m default=S.getD m default:=by rw [getD_take,if_pos hm]
       rw [em]
       have hpm:=(hpre m hm).1
       obtain ⟨a,ha⟩:=Int.eq_ofNat_of_zero_le hin.1
       obtain ⟨b,hb⟩:=Int.eq_ofNat_of_zero_le hpm.1
       have ea:((a:Int)).toNat=a:=rfl
       have eb:((b:Int)).toNat=b:=rfl
       have hpa:a<c.Tasks.length:=by omega
       have hpb:b<c.Tasks.length:=by omega
       have lk:(¬ fol c Range.Hi (S.getD k default).toNat (S.getD m default).toNat∧¬ fol c Range.Hi (S.getD m default).toNat (S.getD k default).toNat)↔¬ fol c Range.Hi a b∧¬ fol c Range.Hi b a:=by rw [ha,hb,ea,eb]
       obtain ⟨q1,q2,q3⟩:=IP.bits a hpa
       obtain ⟨r1,r2,r3⟩:=IP.bits b hpb
       rw [ha,hb,ea,eb]
       refine zae rfl (zae (by omega) (zae (by omega) (zae (zd3 q1 q2 hn) (zae (fun _=>rfl) (zae (fun _=>by omega) (zae (fun _=>by omega) (zae (fun _=>zd3 r1 r2 hn) ?_)))))))
       rw [ze5 q1,ze5 r1]
       have f1:=q3 b hpb
       have f2:=r3 a hpa
       refine zbS (fun h=>zap ?_) (fun h=>?_)
       · rw [zeY (fun A=>?_)]
         have h1:=lk.1 (A.1.apart m k hm hk)
         rw [Bool.or_eq_true,f1,f2] at h
         rcases h with h|h
         · exact h1.1 h
         · exact h1.2 h
       · refine hK' (lk.2 ⟨fun hf=>?_,fun hf=>?_⟩)
         · rw [f1.2 hf] at h;cases h
         · rw [f2.2 hf,Bool.or_true] at h;cases h
   · have hC:CutL (fol c Range.Hi) c.Tasks.length S:=⟨fun k hk=>(h k hk).1,fun k h0 hk=>(h k hk).2.1 h0,fun m k hm hk=>(h k hk).2.2 m hm⟩
     refine zcA (fun h'=>zap ?_) (fun h'=>zap ?_)
     · rw [zeY (fun A=>by have:=A.2;omega)]
     · rw [zej ⟨hC,by omega⟩]
 · rw [zlk V,zeY V]
   exact zbU rfl (zap rfl)
theorem zoI {c:Crew} {S:List Int} {z:Int}:ckC c S z=0↔Valid c∧CutL (fol c Range.Hi) c.Tasks.length S∧z≤S.length:=by
 unfold ckC
 by_cases V:Valid c
 · rw [zej V]
   by_cases A:CutL (fol c Range.Hi) c.Tasks.length S∧z≤S.length
   · rw [zej A];exact ⟨fun _=>⟨V,A⟩,fun _=>rfl⟩
   · rw [zeY A];exact ⟨fun h=>(by cases h),fun h=>absurd h.2 A⟩
 · rw [zeY V];exact ⟨fun h=>(by cases h),fun h=>absurd h.1 V⟩
section
variable {n:Nat} {adj:Nat→Nat→Prop} {rank:Nat→Int}
theorem getD_map {S T:Type} [Inhabited S] [Inhabited T] (f:S→T) {l:List S} {i:Nat} (h:i<l.length):(l.map f).getD i default=f (l.getD i default):=by
 rw [List.getD_eq_getElem?_getD,List.getD_eq_getElem?_getD,List.getElem?_map,List.getElem?_eq_getElem h];rfl
theorem znT {l:List Nat} (h:l.Pairwise (· < ·)) {i j:Nat} (hij:i<j) (hj:j<l.length):l.getD i default<l.getD j default:=by
 rw [List.pairwise_iff_getElem] at h
 have:=h i j (by omega) hj hij
 rw [List.getD_eq_getElem?_getD,List.getD_eq_getElem?_getD,List.getElem?_eq_getElem hj,List.getElem?_eq_getElem (show i<l.length by omega)]
 exact this
theorem IsCut.list {l:List Nat} (hp:l.Pairwise (· < ·)) (C:IsCut adj n l):CutL adj n (l.map (fun (x:Nat)=>(x:Int))):=by
 refine ⟨fun k hk=>?_,fun k h0 hk=>?_,fun m k hm hk=>?_⟩
 · rw [List.length_map] at hk
   rw [getD_map _ hk]
   have:=C.lt _ (zbf hk)
   omega
 · rw [List.length_map] at hk
   rw [getD_map _ hk,getD_map _ (by omega)]
   have:=znT hp (show k - 1<k by omega) hk
   omega
 · rw [List.length_map] at hk
   rw [getD_map _ hk,getD_map _ (show m<l.length by omega)]
   exact ⟨C.apart _ (zbf hk) _ (zbf (by omega)),C.apart _ (zbf (by omega)) _ (zbf hk)⟩
def chn (back:Nat→Int):Nat→Int→List Int
 | 0,_=>[]
 | f+1,k=>if k<0 then [] else k::chn back f (back k.toNat)
theorem zlj {back:Nat→Int} {f:Nat} {k:Int} (h:k<0):chn back f k=[]:=by
 cases f
 · rfl
 · unfold chn;rw [if_pos h]
theorem zli {back:Nat→Int} {f:Nat} {k:Int} (h:0≤k):chn back (f+1) k=k::chn back f (back k.toNat):=by
 show (if k<0 then [] else _)=_
 rw [if_neg (by omega)]
variable {s:Ks}
theorem zjp (M:Mat adj n s) (O:Ord adj n rank) (top:Int) (ht:∀ x,x<n→rank x≤top):∀ (f:Nat) (k:Nat),k<n→top - rank k<f→∀ x:Int,x∈chn s.back f k↔∃ y:Nat,x=(y:Int)∧Ch s.back k y
 | 0,k,hk,h,x=>by have:=ht k hk;omega
 | f+1,k,hk,h,x=>by
  rw [zli (Int.natCast_nonneg k),Int.toNat_natCast,List.mem_cons]
  by_cases hb:s.back k<0
  · rw [zlj hb]
    constructor
    · rintro (rfl|h)
      · exact ⟨k,rfl,.refl _⟩
      · cases h
    · rintro ⟨y,rfl,hc⟩
      cases hc with
      | refl=>exact .inl rfl
      | step h1 _=>omega
  · obtain ⟨q,hq⟩:=Int.eq_ofNat_of_zero_le (show 0≤s.back k by omega)
    obtain ⟨h1,_,h2⟩:=M.edge hq
    have:=O.up _ _ h2
    rw [hq,zjp M O top ht f q h1 (by omega) x]
    constructor
    · rintro (rfl|⟨y,rfl,hc⟩)
      · exact ⟨k,rfl,.refl _⟩
      · exact ⟨y,rfl,.step hq hc⟩
    · rintro ⟨y,rfl,hc⟩
      cases hc with
      | refl=>exact .inl rfl
      | step h3 h4=>
       right
       rename_i q'
       have:q'=q:=by omega
       subst this;exact ⟨y,rfl,h4⟩
theorem zf2 (M:Mat adj n s) (O:Ord adj n rank) (top:Int) (ht:∀ x,x<n→rank x≤top):∀ (f:Nat) (k:Nat),k<n→top - rank k<f→IsRound adj n (chn s.back f k)∧(chn s.back f k).getD 0 default=(k:Int)∧(chn s.back f k).length≤(top - rank k).toNat+1
 | 0,k,hk,h=>by have:=ht k hk;omega
 | f+1,k,hk,h=>by
  rw [zli (Int.natCast_nonneg k),Int.toNat_natCast]
  by_cases hb:s.back k<0
  · rw [zlj hb]
    refine ⟨⟨by simp,fun j hj=>?_,fun j h0 hj=>?_⟩,rfl,by simp⟩
    · simp at hj;subst hj;show 0≤(k:Int)∧(k:Int)<n;omega
    · simp at hj;omega
  · obtain ⟨q,hq⟩:=Int.eq_ofNat_of_zero_le (show 0≤s.back k by omega)
    obtain ⟨h1,_,h2⟩:=M.edge hq
    have hup:=O.up _ _ h2
    obtain ⟨R,hd,hlen⟩:=zf2 M O top ht f q h1 (by omega)
    have htk:=ht q h1
    rw [hq]
    generalize chn s.back f (q:Int)=l at R hd hlen
    refine ⟨⟨by simp,fun j hj=>?_,fun j h0 hj=>?_⟩,rfl,by rw [List.length_cons];omega⟩
    · cases j with
      | zero=>show 0≤(k:Int)∧(k:Int)<n;omega
      | succ j=>exact R.rng j (by simpa using hj)
    · obtain ⟨j,rfl⟩:∃ j',j=j'+1:=⟨j - 1,by omega⟩
      cases j with
      | zero=>
       show adj ((k:Int)).toNat (l.getD 0 default).toNat
       rw [hd];exact h2
      | succ j=>exact R.link (j+1) (by omega) (by simpa using hj)
theorem znk (M:Mat adj n s) (O:Ord adj n rank):∀ (b:Nat) (x:Nat),x<n→(∀ y,y<n→rank x≤rank y+b)→∃ t,t<n∧s.own t<0∧Ch s.back t x
 | 0,x,hx,hb=>by
  by_cases h:s.own x<0
  · exact ⟨x,hx,h,.refl _⟩
  · obtain ⟨y,h1,h2⟩:=M.own x hx (by omega)
    obtain ⟨_,_,h3⟩:=M.edge h2
    have:=O.up _ _ h3
    have:=hb y (O.lt _ _ h3).1
    omega
 | b+1,x,hx,hb=>by
  by_cases h:s.own x<0
  · exact ⟨x,hx,h,.refl _⟩
  · obtain ⟨y,h1,h2⟩:=M.own x hx (by omega)
    obtain ⟨_,_,h3⟩:=M.edge h2
    have hup:=O.up _ _ h3
    obtain ⟨t,a,b',c⟩:=znk M O b y (O.lt _ _ h3).1 (fun z hz=>by have:=hb z hz;omega)
    exact ⟨t,a,b',c.snoc h2⟩
theorem znd (n:Nat) (f:Nat→Int):(loose n f).Pairwise (· < ·):=List.Pairwise.filter _ List.pairwise_lt_range
theorem zjr (M:Mat adj n s) (O:Ord adj n rank) (lo top:Int) (hr:∀ x,x<n→lo≤rank x∧rank x≤top) (f:Nat) (hf:top - lo<f) :
 AreRounds adj n ((loose n s.own).map (fun (i:Nat)=>chn s.back f i)):=by
 have ht:∀ x,x<n→rank x≤top:=fun x hx=>(hr x hx).2
 have hR:∀ k,k<(loose n s.own).length→∃ i:Nat,(loose n s.own).getD k default=i∧i<n∧s.own i<0∧rd ((loose n s.own).map (fun (i:Nat)=>chn s.back f i)) k=chn s.back f (i:Int)∧IsRound adj n (chn s.back f i)∧(chn s.back f i).getD 0 default=(i:Int):=by
  intro k hk
  have hm:=zcn.1 (zbf hk)
  have:=hr _ hm.1
  have h:=zf2 M O top ht f _ hm.1 (by omega)
  exact ⟨_,rfl,hm.1,hm.2,getD_map _ hk,h.1,h.2.1⟩
 refine ⟨fun k hk=>?_,fun k h0 hk=>?_,?_,fun x hx=>?_⟩
 · rw [List.length_map] at hk
   obtain ⟨i,_,_,_,h3,h4,_⟩:=hR k hk
   rw [h3];exact h4
 · rw [List.length_map] at hk
   obtain ⟨i,e1,_,_,h3,_,h5⟩:=hR k hk
   obtain ⟨j,e2,_,_,g3,_,g5⟩:=hR (k - 1) (by omega)
   rw [h3,g3,h5,g5]
   have:=znT (znd n s.own) (show k - 1<k by omega) hk
   omega
 · show List.Pairwise (· ≠ ·) _
   rw [List.pairwise_flatten]
   refine ⟨fun l hl=>?_,?_⟩
   · obtain ⟨i,hi,rfl⟩:=List.mem_map.1 hl
     have hm:=zcn.1 hi
     have:=hr _ hm.1
     have R:=(zf2 M O top ht f _ hm.1 (by omega)).1
     rw [List.pairwise_iff_getElem]
     have up:∀ (b a:Nat),a<b→b<(chn s.back f (i:Int)).length→rank ((chn s.back f (i:Int)).getD a default).toNat<rank ((chn s.back f (i:Int)).getD b default).toNat:=by
      intro b
      induction b with
      | zero=>intro a h;omega
      | succ b ih=>
       intro a h hb
       have h1:=O.up _ _ (R.link (b+1) (by omega) hb)
       rw [show b+1 - 1=b by omega] at h1
       by_cases e:a=b
       · subst e;exact h1
       · have:=ih a (by omega) (by omega);omega
     intro a b ha hb hab e
     have:=up b a hab hb
     rw [List.getD_eq_getElem?_getD,List.getD_eq_getElem?_getD,List.getElem?_eq_getElem ha,List.getElem?_eq_getElem hb,e] at this
     omega
   · rw [List.pairwise_map]
     have h1:(loose n s.own).Pairwise (· ≠ ·):=zfB n s.own
     refine List.Pairwise.imp_of_mem (fun {i j} hi hj hne x hx y hy e=>?_) h1
     subst e
     have hmi:=zcn.1 hi
     have hmj:=zcn.1 hj
     have ri:=hr _ hmi.1
     have rj:=hr _ hmj.1
     obtain ⟨a,rfl,ca⟩:=(zjp M O top ht f i hmi.1 (by omega) x).1 hx
     obtain ⟨b,hb,cb⟩:=(zjp M O top ht f j hmj.1 (by omega) _).1 hy
     have:a=b:=by omega
     subst this
     have no:∀ {i j:Nat},s.own j<0→i≠j→¬ Ch s.back i j:=fun {i j} hj hne hc=>by
      rcases hc.last with h|⟨w,_,hw⟩
      · exact hne h
      · have:=(M.edge hw).2.1;omega
     rcases Ch.both M ca cb with h|h
     · exact no hmj.2 hne h
     · exact no hmi.2 (Ne.symm hne) h
 · obtain ⟨t,h1,h2,h3⟩:=znk M O (top - lo).toNat x hx (fun y hy=>by have:=hr x hx;have:=hr y hy;omega)
   refine List.mem_flatten.2 ⟨chn s.back f (t:Int),List.mem_map.2 ⟨t,zcn.2 ⟨h1,h2⟩,rfl⟩,?_⟩
   have:=hr t h1
   exact (zjp M O top ht f t h1 (by omega) _).2 ⟨x,rfl,h3⟩
end
end Go.Sp
end
/- Plain laws, crew: the rounds and the cut that are returned; CrewFewest. No program in sight. -/
section
set_option linter.all false
namespace Go.Sp
open Go.Av
set_option maxRecDepth 100000
theorem zod {n:Nat} (h:n≤3000):room n 8:=by unfold room;omega
theorem room24 {n:Nat} (h:n≤3000):room n 24:=by unfold room;omega
section
variable {c:Crew}
theorem zmT (V:Valid c) {fuel:Nat} (hf:2000≤fuel):Wp (zdI fuel c) (fun r=>r.2=0∧AreRounds (fol c Range.Hi) c.Tasks.length r.1∧r.1.length=nr c Range.Hi∧Fit r.1∧∀ k,k<r.1.length→(rd r.1 k).length≤2000):=by
 have hn:=V.tasks
 unfold zdI
 refine zaq (zf3 c) ?_
 rw [zek V]
 refine zay rfl ?_
 rw [zhd]
 refine wp_bind (zec V (.inr rfl)) (fun y hy=>?_)
 obtain ⟨p,rfl,hpc,IP⟩:=hy
 refine zae rfl (wp_bind (zkM IP (by omega)) (fun y hy=>?_))
 obtain ⟨hP,seen,D,hK⟩:=hy
 obtain ⟨own,back⟩:=y
 dsimp only at hP hK ⊢
 have hol:=hP.ol
 have hbl:=hP.bl
 have O:=zk2 V (.inr rfl:zg5 Range.Hi)
 have M:=hK.mat
 have hat:∀ x,x<c.Tasks.length→(0:Int)≤(tk c x).At∧(tk c x).At≤1439:=fun x hx=>by have:=V.at hx;omega
 have htop:∀ x,x<c.Tasks.length→(tk c x).At≤1439:=fun x hx=>(hat x hx).2
 refine zaV (fun i s=>s=(loose i (ab own)).map (fun (h:Nat)=>chn (ab back) 1441 h)) rfl (fun i s K hi hI hK'=>?_) (fun s hI=>zap ?_)
 · have hi':i<c.Tasks.length:=by omega
   have e:own.getD i default=ab own i:=(zmI hi).symm
   have hl:loose (i+1) (ab own)=loose i (ab own)++if ab own i<0 then [i] else []:=by
    unfold loose
    rw [List.range_succ,List.filter_append,List.filter_cons]
    split <;> rename_i h <;> simp at h <;> simp [h]
   have hle:(loose i (ab own)).length≤i:=by unfold loose;exact Nat.le_trans (List.length_filter_le _ _) (by simp)
   rw [e]
   refine zcA (fun h=>hK' _ ?_) (fun h=>?_)
   · rw [hl,if_neg (by omega),List.append_nil];exact hI
   · refine wp_loop (fun s=>s.1<c.Tasks.length∧s.2.length≤1441∧∃ f:Nat,s.2++chn (ab back) f s.1=chn (ab back) 1441 (i:Int)∧(0≤s.1→1439 - (tk c s.1.toNat).At<f∧s.2.length+f≤1441)) (fun s=>if s.1<0 then 0 else (1440 - (tk c s.1.toNat).At).toNat+1)
      (by dsimp only;rw [if_neg (by omega)];have:=hat i hi';rw [Int.toNat_natCast];omega) ⟨by dsimp only;omega,by simp,1441,rfl,fun _=>by have:=hat i hi';dsimp only;rw [Int.toNat_natCast];simp;omega⟩ (fun s2 K2 hI2 hK2=>?_)
     obtain ⟨k,l⟩:=s2
     obtain ⟨h2,h3,f,h4,h5⟩:=hI2
     dsimp only at h2 h3 h4 h5 hK2 ⊢
     refine zcA (fun h'=>?_) (fun h'=>?_)
     · obtain ⟨q,rfl⟩:=Int.eq_ofNat_of_zero_le h'
       rw [Int.toNat_natCast] at h5 ⊢
       have hq:q<c.Tasks.length:=by omega
       obtain ⟨g1,g2⟩:=h5 h'
       have hatq:=hat q hq
       obtain ⟨f,rfl⟩:∃ f',f=f'+1:=⟨f - 1,by omega⟩
       rw [zli h',Int.toNat_natCast] at h4
       refine zae (by rw [List.length_append];exact zod (by simp;omega)) (zae (by omega) ?_)
       have eb:back.getD q default=ab back q:=(zmI (by omega)).symm
       rw [eb]
       have hb2:ab back q<0∨∃ z:Nat,ab back q=(z:Int)∧z<c.Tasks.length∧(tk c q).At<(tk c z).At:=by
        by_cases hneg:ab back q<0
        · exact .inl hneg
        · obtain ⟨z,hz⟩:=Int.eq_ofNat_of_zero_le (show 0≤ab back q by omega)
          obtain ⟨a1,_,a2⟩:=M.edge hz
          exact .inr ⟨z,hz,a1,O.up _ _ a2⟩
       refine hK2 _ ⟨?_,by simp;omega,f,by rw [List.append_assoc];exact h4,fun h0=>?_⟩ ?_
       · rcases hb2 with h|⟨z,h,h',_⟩ <;> dsimp only <;> omega
       · dsimp only at h0 ⊢
         rcases hb2 with h|⟨z,h,h',h''⟩
         · omega
         · rw [h,Int.toNat_natCast]
           exact ⟨by omega,by rw [List.length_append,List.length_singleton];omega⟩
       · dsimp only
         rw [if_neg (show ¬ ((q:Int)<0) by omega)]
         rcases hb2 with h|⟨z,h,h',h''⟩
         · rw [if_pos h];omega
         · rw [if_neg (by omega),h]
           simp only [Int.toNat_natCast]
           have:=hat z h'
           omega
     · rw [zlj (by omega),List.append_nil] at h4
       subst h4
       have hsl:s.length≤i:=by rw [hI,List.length_map];exact hle
       refine zae (by rw [List.length_append];exact room24 (by simp;omega)) (hK' _ ?_)
       rw [hl,if_pos (by omega),List.map_append,hI];rfl
 · have A:=zjr M O 0 1439 hat 1441 (by omega)
   rw [hol] at hI
   subst hI
   have hlen:((loose c.Tasks.length (ab own)).map (fun (h:Nat)=>chn (ab back) 1441 h)).length=nr c Range.Hi:=by
    have h1:=zhE hK O (fun k hk=>(hP.ok k hk).2)
    have h2:=zjV M hK.rest (fun k hk=>(hP.ok k hk).2)
    rw [List.length_map,zps h1];exact h2
   have hrd:∀ k,k<((loose c.Tasks.length (ab own)).map (fun (h:Nat)=>chn (ab back) 1441 h)).length→(rd ((loose c.Tasks.length (ab own)).map (fun (h:Nat)=>chn (ab back) 1441 h)) k).length≤2000:=fun k hk=>by
    rw [List.length_map] at hk
    have e:rd ((loose c.Tasks.length (ab own)).map (fun (h:Nat)=>chn (ab back) 1441 h)) k=chn (ab back) 1441 ((loose c.Tasks.length (ab own)).getD k default:Nat):=getD_map _ hk
    have hm:=zcn.1 (zbf hk)
    have:=hat _ hm.1
    have:=(zf2 M O 1439 htop 1441 _ hm.1 (by omega)).2.2
    rw [e];exact Nat.le_trans this (by omega)
   refine ⟨rfl,A,hlen,⟨?_,fun k hk=>Nat.le_trans (hrd k hk) (by omega)⟩,hrd⟩
   rw [List.length_map]
   have:(loose c.Tasks.length (ab own)).length≤c.Tasks.length:=by unfold loose;exact Nat.le_trans (List.length_filter_le _ _) (by simp)
   omega
end
end Go.Sp
end
/- Plain laws, crew: the cut that is returned; CrewFewest. No program in sight. -/
section
set_option linter.all false
namespace Go.Sp
open Go.Av
set_option maxRecDepth 100000
section
variable {n:Nat} {adj:Nat→Nat→Prop} {p:crew_plan}
theorem zmh (IP:IsPlan n adj p) {own:List Int} (hol:own.length=n) (hown:∀ k,k<n → -1≤ab own k∧ab own k<n) {A D:Nat→Prop} (hA:∀ x,x<n→A x→∀ y,y<n→adj x y→D y) (hD:∀ y,y<n→D y→0≤ab own y∧A (ab own y).toNat) (fuel:Nat) :
 ∀ (f i:Nat) (fr to:Int),i<n→A i→SB n fr→SB n to→mu n (sb fr)<f→(∀ x,x<n→sb fr x=true→A x)→(∀ y,y<n→sb to y=true→D y) →
  Wp (zcQ fuel f (i:Int) fr (some p) to own) (fun r=>SB n r.1∧SB n r.2∧(∀ x,sb fr x=true→sb r.1 x=true)∧(∀ y,sb to y=true→sb r.2 y=true)∧sb r.1 i=true∧(∀ x,x<n→sb r.1 x=true→A x)∧(∀ y,y<n→sb r.2 y=true→D y) ∧
   (∀ x,x<n→sb r.1 x=true→sb fr x=true∨∀ y,y<n→adj x y→sb r.2 y=true)∧(∀ y,y<n→sb r.2 y=true→sb to y=true∨sb r.1 (ab own y).toNat=true)):=by
 have hn:=IP.le
 intro f
 induction f with
 | zero=>intro i fr to _ _ _ _ h;omega
 | succ f ih=>
  intro i fr to hi hAi hF hT hmu hFA hTD
  show Wp (zcE fuel (zcQ fuel f) (i:Int) fr (some p) to own) _
  unfold zcE
  have ei:((i:Int)).toNat=i:=rfl
  have hp:=zgo hi hn
  rw [ei]
  refine zae (by omega) (zae (zd3 hF.nn hF.lt hn) ?_)
  rw [ze5 hF.nn]
  refine zbS (fun hs=>zap ⟨hF,hT,fun x h=>h,fun y h=>h,hs,hFA,hTD,fun x _ h=>.inl h,fun y _ h=>.inl h⟩) (fun hs=>?_)
  refine zae ⟨by omega,by omega,by unfold inI;omega⟩ (zae ⟨hF.nn,hp.1,hF.inI hn,by unfold inI;omega⟩ (zae rfl ?_))
  have ep:(some p).getD default=p:=rfl
  rw [ep]
  refine zaq (zgQ IP hi) ?_
  obtain ⟨_,_,hbit⟩:=IP.bits i hi
  have hF2:=hF.put hi
  have hsee:∀ x,sb (((fr.toNat ||| (((1:Int) * 2 ^ i)).toNat:Nat):Int)) x=(sb fr x || decide (x=i)):=fun x=>by rw [zgL]
  have hmu2:mu n (sb (((fr.toNat ||| (((1:Int) * 2 ^ i)).toNat:Nat):Int)))<mu n (sb fr):=by
   rw [zgL];exact zom (j:=i) (fun k h=>by simp [h]) hi hs (by simp)
  generalize (((fr.toNat ||| (((1:Int) * 2 ^ i)).toNat:Nat):Int))=fr2 at hF2 hsee hmu2
  refine zoT n _ (fun j s=>SB n s.1∧SB n s.2∧mu n (sb s.1)≤mu n (sb fr2)∧(∀ x,sb fr x=true→sb s.1 x=true)∧(∀ y,sb to y=true→sb s.2 y=true)∧sb s.1 i=true∧(∀ x,x<n→sb s.1 x=true→A x)∧(∀ y,y<n→sb s.2 y=true→D y) ∧
   (∀ x,x<n→sb s.1 x=true→sb fr x=true∨x=i∨∀ y,y<n→adj x y→sb s.2 y=true)∧(∀ y,y<n→sb s.2 y=true→sb to y=true∨sb s.1 (ab own y).toNat=true)∧∀ y,y<j→adj i y→sb s.2 y=true)
   ⟨hF2,hT,Nat.le_refl _,fun x h=>by dsimp only;rw [hsee,h];rfl,fun y h=>h,by dsimp only;rw [hsee];simp,fun x hx h=>?_,hTD,fun x hx h=>?_,fun y _ h=>.inl h,fun y h=>by omega⟩
   (fun j s hj hW hI=>?_) (fun j s K hj hW hI hK=>?_) (fun s hI=>zap ?_)
  · dsimp only at h;rw [hsee] at h
    by_cases e:x=i
    · subst e;exact hAi
    · simp [e] at h;exact hFA x hx h
  · dsimp only at h;rw [hsee] at h
    by_cases e:x=i
    · exact .inr (.inl e)
    · simp [e] at h;exact .inl h
  · obtain ⟨a1,a2,a3,a4,a5,a6,a7,a8,a9,a10,a11⟩:=hI
    refine ⟨a1,a2,a3,a4,a5,a6,a7,a8,a9,a10,fun y hy hadj=>?_⟩
    by_cases e:y=j
    · subst e
      have:=(hbit y hj).2 hadj
      rw [hW] at this;cases this
    · exact a11 y (by omega) hadj
  · obtain ⟨fr1,to1⟩:=s
    obtain ⟨a1,a2,a3,a4,a5,a6,a7,a8,a9,a10,a11⟩:=hI
    dsimp only at a1 a2 a3 a4 a5 a6 a7 a8 a9 a10 a11 hK ⊢
    have hadj:=(hbit j hj).1 hW
    have hDj:=hA i hi hAi j hj hadj
    have ej:((j:Int)).toNat=j:=rfl
    have hpj:=zgo hj hn
    rw [ej]
    refine zae ⟨by omega,by omega,by unfold inI;omega⟩ (zae ⟨a2.nn,hpj.1,a2.inI hn,by unfold inI;omega⟩ (zae (by omega) ?_))
    have b2:=a2.put hj
    have hseeT:∀ x,sb (((to1.toNat ||| (((1:Int) * 2 ^ j)).toNat:Nat):Int)) x=(sb to1 x || decide (x=j)):=fun x=>by rw [zgL]
    generalize (((to1.toNat ||| (((1:Int) * 2 ^ j)).toNat:Nat):Int))=to2 at b2 hseeT
    have eo:own.getD j default=ab own j:=(zmI (by omega)).symm
    rw [eo]
    obtain ⟨h0,hAo⟩:=hD j hj hDj
    have hok:=hown j hj
    obtain ⟨o,ho⟩:=Int.eq_ofNat_of_zero_le h0
    rw [ho,Int.toNat_natCast] at hAo
    rw [ho]
    refine zbU (by simp) (zae (by omega) ?_)
    have hto2:∀ y,sb to1 y=true→sb to2 y=true:=fun y h=>by rw [hseeT,h];rfl
    refine wp_bind (ih o fr1 to2 (by omega) hAo a1 b2 (by omega) a7 (fun y hy h=>by
     rw [hseeT] at h
     by_cases e:y=j
     · subst e;exact hDj
     · simp [e] at h;exact a8 y hy h)) (fun y hy=>?_)
    obtain ⟨c1,c2,c3,c4,c5,c6,c7,c8,c9⟩:=hy
    refine hK _ ⟨c1,c2,Nat.le_trans (ziV c3) a3,fun x h=>c3 x (a4 x h),fun y h=>c4 y (hto2 y (a5 y h)),c3 i a6,c6,c7,fun x hx h=>?_,fun y hy h=>?_,fun y hy hadj'=>?_⟩
    · rcases c8 x hx h with h1|h1
      · rcases a9 x hx h1 with h2|h2|h2
        · exact .inl h2
        · exact .inr (.inl h2)
        · exact .inr (.inr (fun y hy ha=>c4 y (hto2 y (h2 y hy ha))))
      · exact .inr (.inr h1)
    · rcases c9 y hy h with h1|h1
      · rw [hseeT] at h1
        by_cases e:y=j
        · subst e;right;rw [ho,Int.toNat_natCast];exact c5
        · simp [e] at h1
          rcases a10 y hy h1 with h2|h2
          · exact .inl h2
          · exact .inr (c3 _ h2)
      · exact .inr h1
    · by_cases e:y=j
      · subst e;exact c4 y (by rw [hseeT];simp)
      · exact c4 y (hto2 y (a11 y (by omega) hadj'))
  · obtain ⟨a1,a2,a3,a4,a5,a6,a7,a8,a9,a10,a11⟩:=hI
    refine ⟨a1,a2,a4,a5,a6,a7,a8,fun x hx h=>?_,a10⟩
    rcases a9 x hx h with h1|h1|h1
    · exact .inl h1
    · subst h1;exact .inr (fun y hy ha=>a11 y hy ha)
    · exact .inr h1
end
section
variable {c:Crew}
theorem cut_wp (V:Valid c) {fuel:Nat} (hf:2000≤fuel):Wp (zf0 fuel c) (fun r=>r.2=0∧CutL (fol c Range.Hi) c.Tasks.length r.1∧r.1.length=nr c Range.Hi):=by
 have hn:=V.tasks
 unfold zf0
 refine zaq (zf3 c) ?_
 rw [zek V]
 refine zay rfl ?_
 rw [zhd]
 refine wp_bind (zec V (.inr rfl)) (fun y hy=>?_)
 obtain ⟨p,rfl,hpc,IP⟩:=hy
 refine zae rfl (wp_bind (zkM IP (by omega)) (fun y hy=>?_))
 obtain ⟨hP,seen,D,hK⟩:=hy
 obtain ⟨own,back⟩:=y
 dsimp only at hP hK ⊢
 have hol:=hP.ol
 have hbl:=hP.bl
 have O:=zk2 V (.inr rfl:zg5 Range.Hi)
 have M:=hK.mat
 let A:Nat→Prop:=fun x=>ab back x<0∨∃ k,k<c.Tasks.length∧D k∧ab own k=(x:Int)
 have hA:∀ x,x<c.Tasks.length→A x→∀ y,y<c.Tasks.length→fol c Range.Hi x y→D y:=by
  intro x hx ha q hq hadj
  rcases ha with h|⟨k,h1,h2,h3⟩
  · exact hK.lost x hx h q hq hadj
  · obtain ⟨o,h4,h5⟩:=hK.dead k h1 h2
    have h4:ab own k=(o:Int):=h4
    have:o=x:=by omega
    subst this;exact h5 q hq hadj
 have hD:∀ y,y<c.Tasks.length→D y→0≤ab own y∧A (ab own y).toNat:=fun y hy hd=>by
  obtain ⟨o,h4,h5⟩:=hK.dead y hy hd
  have h4:ab own y=(o:Int):=h4
  exact ⟨by omega,.inr ⟨y,hy,hd,by omega⟩⟩
 rw [hbl]
 refine zaV (fun i s=>SB c.Tasks.length s.1∧SB c.Tasks.length s.2∧(∀ x,x<i→ab back x<0→sb s.1 x=true)∧(∀ x,x<c.Tasks.length→sb s.1 x=true→A x)∧(∀ y,y<c.Tasks.length→sb s.2 y=true→D y) ∧
  (∀ x,x<c.Tasks.length→sb s.1 x=true→∀ y,y<c.Tasks.length→fol c Range.Hi x y→sb s.2 y=true)∧(∀ y,y<c.Tasks.length→sb s.2 y=true→sb s.1 (ab own y).toNat=true))
  ⟨SB.zero _,SB.zero _,fun x hx=>by omega,fun x _ h=>by unfold sb at h;simp at h,fun y _ h=>by unfold sb at h;simp at h,fun x _ h=>by unfold sb at h;simp at h,fun y _ h=>by unfold sb at h;simp at h⟩ (fun i s K hi hI hK'=>?_) (fun s hI=>?_)
 · obtain ⟨a1,a2,a3,a4,a5,a6,a7⟩:=hI
   have eb:back.getD i default=ab back i:=(zmI (by omega)).symm
   rw [eb]
   refine zcA (fun h=>?_) (fun h=>hK' _ ⟨a1,a2,fun x hx hb=>?_,a4,a5,a6,a7⟩)
   · refine wp_bind (zmh IP hol hP.ok hA hD fuel fuel i s.1 s.2 hi (.inl h) a1 a2 (by have:=zon c.Tasks.length (sb s.1);omega) a4 a5) (fun y hy=>?_)
     obtain ⟨c1,c2,c3,c4,c5,c6,c7,c8,c9⟩:=hy
     refine hK' _ ⟨c1,c2,fun x hx hb=>?_,c6,c7,fun x hx h=>?_,fun y hy h=>?_⟩
     · by_cases e:x=i
       · subst e;exact c5
       · exact c3 x (a3 x (by omega) hb)
     · rcases c8 x hx h with h1|h1
       · exact fun y hy ha=>c4 y (a6 x hx h1 y hy ha)
       · exact h1
     · rcases c9 y hy h with h1|h1
       · exact c3 _ (a7 y hy h1)
       · exact h1
   · by_cases e:x=i
     · subst e;exact absurd hb h
     · exact a3 x (by omega) hb
 · obtain ⟨a1,a2,a3,a4,a5,a6,a7⟩:=hI
   obtain ⟨fr,to⟩:=s
   dsimp only at a1 a2 a3 a4 a5 a6 a7 ⊢
   refine zae (by omega) ?_
   refine zaV (fun i s=>s=((List.range i).filter (fun x=>sb fr x && !sb to x)).map (fun (x:Nat)=>(x:Int))) rfl (fun i s K hi hI hK'=>?_) (fun s hI=>zap ?_)
   · have ei:((i:Int)).toNat=i:=rfl
     rw [ei]
     refine zae (by omega) (zae (zd3 a1.nn a1.lt hn) (zae (fun _=>by omega) (zae (fun _=>zd3 a2.nn a2.lt hn) ?_)))
     rw [ze5 a1.nn,zmb a2.nn]
     have hl:(List.range (i+1)).filter (fun x=>sb fr x && !sb to x)=(List.range i).filter (fun x=>sb fr x && !sb to x)++if (sb fr i && !sb to i)=true then [i] else []:=by
      rw [List.range_succ,List.filter_append,List.filter_cons];rfl
     have hle:s.length≤i:=by rw [hI,List.length_map];exact Nat.le_trans (List.length_filter_le _ _) (by simp)
     have es:(fr.toNat.testBit i && !to.toNat.testBit i)=(sb fr i && !sb to i):=rfl
     rw [es]
     refine zbS (fun h=>?_) (fun h=>hK' _ ?_)
     · refine zae (by rw [List.length_append];exact zod (by simp;omega)) (hK' _ ?_)
       rw [hl,if_pos h,List.map_append,hI];rfl
     · rw [hl,if_neg (by rw [h];simp),List.append_nil];exact hI
   · obtain ⟨h1,h2⟩:=zmY hK (fun x=>sb fr x) (fun x=>sb to x) a3 a6 (fun y hy h=>⟨a5 y hy h,a7 y hy h⟩) (fun k hk=>(hP.ok k hk).2)
     have h3:=znI M O h1
     subst hI
     refine ⟨rfl,IsCut.list (List.Pairwise.filter _ List.pairwise_lt_range) h1,?_⟩
     rw [List.length_map,zps (zhE hK O (fun k hk=>(hP.ok k hk).2))]
     exact Nat.le_antisymm h3 h2
end
end Go.Sp
end
/- Plain laws, crew: slack, and who is late; CrewLate. No program in sight. -/
section
set_option linter.all false
namespace Go.Sp
open Go.Av
set_option maxRecDepth 100000
theorem zpk {l:List Int} (h:l.length≤100000):zbV l=some (isort l):=zdd (by omega) _
def upd1 (o g:Int):Int:=if o<0∨g<o then g else o
def rk (r:List Int) (k:Nat):Nat:=(r.getD k default).toNat
def slr (c:Crew) (r:List Int):Nat→Int→Int
 | 0,o=>o
 | k+1,o=>upd1 (slr c r k o) (gap c Range.Hi (rk r k) (rk r (k+1)))
def slo (c:Crew) (ls:List (List Int)):Nat→Int
 | 0=>-1
 | i+1=>slr c (rd ls i) ((rd ls i).length - 1) (slo c ls i)
section
variable {c:Crew} {ls:List (List Int)}
theorem zhr {n:Nat} {l:List Int} (hnd:l.Nodup) (hr:∀ x∈l,0≤x∧x<n):l.length≤n:=by
 have:=zb9 (r:=List.range n) Int.toNat hnd (fun x hx=>List.mem_range.2 (by have:=hr x hx;omega)) (fun x hx y hy e=>by have:=hr x hx;have:=hr y hy;omega)
 rwa [List.length_range] at this
theorem IsRound.mem {adj:Nat→Nat→Prop} {n:Nat} {l:List Int} (R:IsRound adj n l):∀ x∈l,0≤x∧x<n:=fun x hx=>by
 obtain ⟨k,hk,rfl⟩:=zbK hx;exact R.rng k hk
theorem IsRound.rk {adj:Nat→Nat→Prop} {n:Nat} {l:List Int} (R:IsRound adj n l) {k:Nat} (hk:k<l.length):l.getD k default=((rk l k:Nat):Int)∧rk l k<n:=by
 have:=R.rng k hk;unfold Sp.rk;omega
theorem IsRound.len {V:Valid c} {l:List Int} (R:IsRound (fol c Range.Hi) c.Tasks.length l):l.length≤24:=by
 have:=zhr (R.nodup V) R.mem;have:=V.tasks;omega
end
end Go.Sp
end
/- Plain laws, crew: who is late; CrewLate. No program in sight. -/
section
set_option linter.all false
namespace Go.Sp
open Go.Av
set_option maxRecDepth 100000
def atk (c:Crew) (r w:List Int):Nat→Int
 | 0=>(tk c (rk r 0)).At
 | k+1=>max (atk c r w k+(tk c (rk r k)).Serve+w.getD k default) (tk c (rk r (k+1))).At
def thr (c:Crew) (r w:List Int) (k:Nat):Int:=atk c r w k+(tk c (rk r k)).Serve+w.getD k default
theorem zoN (c:Crew) (r w:List Int) (k:Nat):atk c r w (k+1)=max (thr c r w k) (tk c (rk r (k+1))).At:=rfl
def ltr (c:Crew) (r w:List Int):Nat→List Int
 | 0=>[]
 | k+1=>ltr c r w k++if (tk c (rk r (k+1))).At<thr c r w k then [r.getD (k+1) default] else []
def lta (c:Crew) (ls ws:List (List Int)):Nat→List Int
 | 0=>[]
 | i+1=>lta c ls ws i++ltr c (rd ls i) (rd ws i) ((rd ls i).length - 1)
structure WalksOk (ls ws:List (List Int)):Prop where
 len:ws.length=ls.length
 row:∀ k,k<ls.length→(rd ws k).length=(rd ls k).length - 1
 rng:∀ k,k<ls.length→∀ m,m<(rd ws k).length→0≤(rd ws k).getD m default∧(rd ws k).getD m default≤600
theorem zhW (l:List Int) (g:Int→Bool):zaD l (fun x=>some (g x))=some (l.any g):=by
 refine Wp.eq ?_
 unfold zaD
 refine wp_bind (Q:=fun r=>(0≤r∧l.any g=true)∨(r = -1∧l.any g=false)) ?_ (fun y hy=>zap ?_)
 · unfold zaR
   refine zaN (fun i=>g (l.getD i default)=false) (fun i K hi _ hK=>?_) (fun h=>zap (.inr ⟨rfl,?_⟩))
   · refine zaq rfl (zbS (fun h=>zap (.inl ⟨Int.natCast_nonneg i,?_⟩)) (fun h=>hK h))
     exact List.any_eq_true.2 ⟨_,zbf hi,h⟩
   · rw [List.any_eq_false]
     intro x hx
     obtain ⟨i,hi,rfl⟩:=zbK hx
     rw [h i hi];simp
 · rcases hy with ⟨h1,h2⟩|⟨rfl,h2⟩
   · rw [h2,decide_eq_true h1]
   · rw [h2];rfl
theorem zlr {ls ws:List (List Int)} (hF:Fit ls) (hne:∀ k,k<ls.length→0<(rd ls k).length):Wp (zcZ ls ws) (fun r=>r=true↔WalksOk ls ws):=by
 unfold zcZ
 refine zoS (fun h=>zap ⟨fun h=>(by cases h),fun W=>absurd (show ((ws.length:Nat):Int)=((ls.length:Nat):Int) by rw [W.len]) h⟩) (fun h=>?_)
 have hl:ws.length=ls.length:=by omega
 refine zaN (fun k=>(rd ws k).length=(rd ls k).length - 1∧∀ m,m<(rd ws k).length→0≤(rd ws k).getD m default∧(rd ws k).getD m default≤600) (fun k K hk _ hK=>?_) (fun h=>zap ⟨fun _=>⟨hl,fun k hk=>(h k (by omega)).1,fun k hk=>(h k (by omega)).2⟩,fun _=>rfl⟩)
 have h1:=hne k (by omega)
 have h2:=hF.2 k (by omega)
 have e1:ls.getD k default=rd ls k:=rfl
 have e2:ws.getD k default=rd ws k:=rfl
 rw [e1,e2]
 refine zae (by omega) (zat (by omega) ?_)
 have hc:(fun x0=>some (zb1 x0))=fun x=>some (!(zaH x 0 600)):=rfl
 rw [hc]
 refine zkC (Q:=fun r=>r=(rd ws k).any (fun x=>!(zaH x 0 600))) (fun _=>Wp.of_eq (zhW _ _) rfl) (fun y hy=>?_)
 refine zbS (fun h=>zap ⟨fun h=>(by cases h),fun W=>?_⟩) (fun h=>?_)
 · have hr:=W.row k (by omega)
   have ed:decide ((((rd ws k).length:Nat):Int)=((((rd ls k).length:Nat):Int) - 1))=true:=decide_eq_true (by omega)
   rw [ed] at h hy
   have:=hy rfl
   subst this
   have h:(rd ws k).any (fun x=>!(zaH x 0 600))=true:=by simpa using h
   obtain ⟨x,hx,hb⟩:=List.any_eq_true.1 h
   obtain ⟨m,hm,rfl⟩:=zbK hx
   have:=W.rng k (by omega) m hm
   rw [zeD.2 this] at hb;cases hb
 · simp only [Bool.or_eq_false_iff,Bool.not_eq_false',decide_eq_true_eq] at h
   have:=hy (by rw [decide_eq_true h.1];rfl)
   subst this
   refine hK ⟨by omega,fun m hm=>?_⟩
   have:=List.any_eq_false.1 h.2 _ (zbf hm)
   have:zaH ((rd ws k).getD m default) 0 600=true:=by simpa using this
   exact zeD.1 this
section
variable {c:Crew} {ls ws:List (List Int)}
theorem znQ (V:Valid c) {r w:List Int} (R:IsRound (fol c Range.Hi) c.Tasks.length r) (hw:w.length=r.length - 1) (hr:∀ m,m<w.length→0≤w.getD m default∧w.getD m default≤600):∀ k,k<r.length→0≤atk c r w k∧atk c r w k≤1439+720 * k
 | 0,h=>by have:=V.at (R.rk h).2;unfold atk;omega
 | k+1,h=>by
  have ih:=znQ V R hw hr k (by omega)
  have h1:=V.at (R.rk (show k<r.length by omega)).2
  have h2:=V.at (R.rk h).2
  have h3:=hr k (by omega)
  unfold atk;omega
theorem zkU (c:Crew) (r w:List Int):∀ k,k<r.length→(ltr c r w k).Sublist (r.take (k+1))
 | 0,_=>List.nil_sublist _
 | k+1,h=>by
  rw [zd5 h]
  show List.Sublist (_++_) _
  refine List.Sublist.append (zkU c r w k (by omega)) ?_
  split
  · exact List.Sublist.refl _
  · exact List.nil_sublist _
theorem zkV (c:Crew) (ls ws:List (List Int)):∀ i,i≤ls.length→(∀ k,k<ls.length→0<(rd ls k).length)→(lta c ls ws i).Sublist (flat ls i)
 | 0,_,_=>List.nil_sublist _
 | i+1,h,hne=>by
  rw [zhM (by omega)]
  show List.Sublist (_++_) _
  refine List.Sublist.append (zkV c ls ws i (by omega) hne) ?_
  have h1:=hne i (by omega)
  have:=zkU c (rd ls i) (rd ws i) ((rd ls i).length - 1) (by omega)
  rwa [show (rd ls i).length - 1+1=(rd ls i).length by omega,List.take_length] at this
theorem AreRounds.mem {adj:Nat→Nat→Prop} {n:Nat} (A:AreRounds adj n ls):∀ x∈ls.flatten,0≤x∧x<n:=fun x hx=>by
 obtain ⟨r,hr,hxr⟩:=List.mem_flatten.1 hx
 obtain ⟨k,hk,rfl⟩:=zbK hr
 exact (A.round k hk).mem x hxr
theorem zms (A:AreRounds (fol c Range.Hi) c.Tasks.length ls) {i k:Nat} (hi:i<ls.length) (hk:k<(rd ls i).length):(lta c ls ws i++ltr c (rd ls i) (rd ws i) k).Nodup∧(lta c ls ws i++ltr c (rd ls i) (rd ws i) k).length≤c.Tasks.length ∧
 (∀ h:k+1<(rd ls i).length,(rd ls i).getD (k+1) default ∉ lta c ls ws i++ltr c (rd ls i) (rd ws i) k):=by
 have s1:=List.Sublist.append (zkV c ls ws i (by omega) (fun k hk=>(A.round k hk).ne)) (zkU c (rd ls i) (rd ws i) k hk)
 obtain ⟨r,hr⟩:=zi7 (m:=k+1) hi
 have s2:(lta c ls ws i++ltr c (rd ls i) (rd ws i) k).Sublist ls.flatten:=by
  rw [hr];exact s1.trans (List.sublist_append_left _ _)
 have hnd:=A.nd.sublist s2
 refine ⟨hnd,zhr hnd (fun x hx=>A.mem x (s2.subset hx)),fun h hm=>?_⟩
 obtain ⟨r',hr'⟩:=zi7 (m:=k+1+1) hi
 have hnd':=A.nd
 rw [hr',zd5 h,← List.append_assoc] at hnd'
 exact (List.nodup_append.1 (List.nodup_append.1 hnd').1).2.2 _ (s1.subset hm) _ (List.mem_singleton.2 rfl) rfl
theorem zpz (V:Valid c) (hF:Fit ls) (A:AreRounds (fol c Range.Hi) c.Tasks.length ls):zeX c ls ws=some (ck (WalksOk ls ws) (isort (lta c ls ws ls.length),0) ([],48)):=by
 refine zpc ?_
 unfold zeX
 have hn:=V.tasks
 refine wp_bind (zhg c ls hF) (fun y hy=>?_)
 have hy2:y.2=0:=by
  rcases hy with ⟨h,rfl⟩|⟨h,h2,rfl⟩|⟨h,h2,p,rfl,_⟩
  · exact absurd V h
  · exact absurd A h2
  · rfl
 rw [hy2]
 refine zay rfl (wp_bind (zlr hF (fun k hk=>(A.round k hk).ne)) (fun y hy=>?_))
 cases y with
 | false=>exact zbU rfl (zap (.inr ⟨fun W=>(by have:=hy.2 W;cases this),rfl⟩))
 | true=>
  have W:=hy.1 rfl
  refine zay rfl ?_
  refine zaV (fun i s=>s=lta c ls ws i) rfl (fun i s K hi hI hK=>?_) (fun s hI=>?_)
  · subst hI
    have R:=A.round i hi
    have hl:=R.len (V:=V)
    have hne:=R.ne
    have hrow:=W.row i hi
    have e1:ls.getD i default=rd ls i:=rfl
    have e2:ws.getD i default=rd ws i:=rfl
    obtain ⟨q1,q2⟩:=R.rk hne
    rw [e1,e2,q1]
    refine zae (by omega) (zae (by omega) (zae (by omega) ?_))
    have hdl:((rd ls i).drop 1).length=(rd ls i).length - 1:=by rw [List.length_drop]
    have et:∀ a:Nat,c.Tasks.getD ((a:Int)).toNat default=tk c a:=fun _=>rfl
    rw [hdl,et]
    refine zaV (fun k s=>s=(atk c (rd ls i) (rd ws i) k,lta c ls ws i++ltr c (rd ls i) (rd ws i) k)) (by show (_,_)=(_,_++[]);rw [List.append_nil];rfl) (fun k s K' hk hI' hK'=>?_) (fun s hI'=>?_)
    · subst hI'
      have ed:((rd ls i).drop 1).getD k default=(rd ls i).getD (k+1) default:=by rw [getD_drop,Nat.add_comm]
      obtain ⟨a1,a2⟩:=R.rk (show k<(rd ls i).length by omega)
      obtain ⟨b1,b2⟩:=R.rk (show k+1<(rd ls i).length by omega)
      rw [ed]
      have hw:=W.rng i hi k (by omega)
      have hat:=znQ V R hrow (W.rng i hi) k (by omega)
      have hsa:=V.at a2
      have hsb:=V.at b2
      have hkey:atk c (rd ls i) (rd ws i) k+((tk c (rk (rd ls i) k)).Serve+(rd ws i).getD k default)=thr c (rd ls i) (rd ws i) k:=by unfold thr;omega
      have hth:thr c (rd ls i) (rd ws i) k=atk c (rd ls i) (rd ws i) k+(tk c (rk (rd ls i) k)).Serve+(rd ws i).getD k default:=rfl
      obtain ⟨l1,l2,l3⟩:=zms (ws:=ws) A hi (show k<(rd ls i).length by omega)
      rw [a1,b1,et,et]
      dsimp only
      rw [hkey]
      refine zae (by omega) (zae (by omega) (zae (by rw [W.len];omega) (zae (by omega) (zat (by omega) (zat (by omega) (zae (by omega) ?_))))))
      refine zkD (fun s=>s=lta c ls ws i++ltr c (rd ls i) (rd ws i) (k+1)) (fun K2 hK2=>?_) (fun s hs=>zae (by omega) (hK' _ ?_))
      · refine zcA (fun h=>zae (by rw [List.length_append];exact zod (by simp only [List.length_cons,List.length_nil];omega)) (hK2 _ ?_)) (fun h=>hK2 _ ?_)
        · show _=_++(_++_)
          rw [if_pos h,List.append_assoc,b1]
        · show _=_++(_++_)
          rw [if_neg h,List.append_nil]
      · subst hs;rfl
    · subst hI';exact hK _ rfl
  · subst hI
    have hlen:(lta c ls ws ls.length).length≤24:=by
     have s2:=zkV c ls ws ls.length (Nat.le_refl _) (fun k hk=>(A.round k hk).ne)
     rw [zlX] at s2
     have:=zhr (A.nd.sublist s2) (fun x hx=>A.mem x (s2.subset hx))
     omega
    exact zaq (zpk (by omega)) (zae (zdQ _) (zap (.inl ⟨W,rfl⟩)))
end
end Go.Sp
end
