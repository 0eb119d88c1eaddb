/- Texts of the framework, or of the plain law, one behind another. -/
import Derived.Test.YtakjeajlmlmkeaaGreatFr1
import Derived.Test.YtakjeajlmlmkeaaGreatFr4
import Derived.KernelRfl
/- Rules for plain laws: what a printed definition yields. No program in sight. -/
section
set_option linter.all false
namespace Go.Sp
open Go.Av
def Wp {R:Type} (x:Option R) (P:R→Prop):Prop:=∃ r,x=some r∧P r
theorem Wp.eq {R:Type} {x:Option R} {v:R} (h:Wp x (· = v)):x=some v:=by
 obtain ⟨r,h1,h2⟩:=h;rw [h1,h2]
theorem zau {R:Type} {r:R} {P:R→Prop} (h:P r):Wp (some r) P:=⟨r,rfl,h⟩
theorem zan {R:Type} {c:Prop} [Decidable c] {x:Option R} {P:R→Prop} (h:c) (k:Wp x P):Wp (must c x) P:=by
 unfold must;rw [if_pos h];exact k
theorem wp_bind {S R:Type} {x:Option S} {k:S→Option R} {P:R→Prop} {Q:S→Prop} (h:Wp x Q) (hk:∀ s,Q s→Wp (k s) P):Wp (zam x k) P:=by
 obtain ⟨r,h1,h2⟩:=h;rw [h1];exact hk r h2
theorem zax {S R:Type} {x:Option S} {k:S→Option R} {P:R→Prop} {v:S} (h:x=some v) (hk:Wp (k v) P):Wp (zam x k) P:=by
 rw [h];exact hk
theorem zcn {R:Type} {b:Bool} {x y:Option R} {P:R→Prop} (h1:b=true→Wp x P) (h2:b=false→Wp y P):Wp (bif b then x else y) P:=by
 cases b
 · exact h2 rfl
 · exact h1 rfl
theorem wp_if {R:Type} {p:Prop} {b:Bool} {x y:Option R} {P:R→Prop} (hb:b=true↔p) (h1:p→Wp x P) (h2:¬ p→Wp y P):Wp (bif b then x else y) P:=
 zcn (fun h=>h1 (hb.1 h)) (fun h=>h2 (fun hp=>by rw [hb.2 hp] at h;cases h))
theorem zbt {R:Type} {p:Prop} [Decidable p] {x y:Option R} {P:R→Prop} (h1:p→Wp x P) (h2:¬ p→Wp y P):Wp (bif (decide p) then x else y) P:=
 wp_if (decide_eq_true_iff) h1 h2
theorem zho {R:Type} {p:Prop} [Decidable p] {x y:Option R} {P:R→Prop} (h1:¬ p→Wp x P) (h2:p→Wp y P):Wp (bif (!decide p) then x else y) P:=
 zcn (fun h=>h1 (by simpa using h)) (fun h=>h2 (by simpa using h))
theorem zcN {R:Type} {b:Bool} {x y:Option R} {P:R→Prop} (h:b=true) (h1:Wp x P):Wp (bif b then x else y) P:=by rw [h];exact h1
theorem zaP {R:Type} {b:Bool} {x y:Option R} {P:R→Prop} (h:b=false) (h1:Wp y P):Wp (bif b then x else y) P:=by rw [h];exact h1
theorem zfr {S R:Type} {f:(S→Option R)→Option R} {k:S→Option R} {P:R→Prop} (G:S→Prop) (hf:∀ K:S→Option R,(∀ s,G s→Wp (K s) P)→Wp (f K) P) (hk:∀ s,G s→Wp (k s) P):Wp (zib f k) P:=hf k hk
theorem zpH {S R:Type} {f:(S→Option R)→Option R} {k:S→Option R} {P:R→Prop} (h:Wp (f k) P):Wp (zib f k) P:=h
theorem zbj {S R:Type} {body:Nat→S→(S→Option R)→Option R} {ex:S→Option R} {n:Nat} {s0:S} {P:R→Prop} (Inv:Nat→S→Prop) (h0:Inv 0 s0)
 (hb:∀ (i:Nat) s (K:S→Option R),i<n→Inv i s→(∀ s',Inv (i+1) s'→Wp (K s') P)→Wp (body i s K) P) (he:∀ s,Inv n s→Wp (ex s) P):Wp (zaq body ex n 0 s0) P:=by
 have go:∀ (m i:Nat),i+m=n→∀ s,Inv i s→Wp (zaq body ex m i s) P:=by
  intro m
  induction m with
  | zero=>intro i hi s hs;have e:i=n:=(by omega);subst e;exact he s hs
  | succ m ih=>intro i hi s hs;exact hb i s _ (by omega) hs (fun s' h'=>ih (i+1) (by omega) s' h')
 exact go n 0 (by omega) s0 h0
theorem wp_loop {S R:Type} {body:S→(S→Option R)→Option R} {fuel:Nat} {s0:S} {P:R→Prop} (Inv:S→Prop) (μ:S→Nat) (hf:μ s0<fuel) (h0:Inv s0)
 (hb:∀ s (K:S→Option R),Inv s→(∀ s',Inv s'→μ s'<μ s→Wp (K s') P)→Wp (body s K) P):Wp (loopGo body fuel s0) P:=by
 have go:∀ (f:Nat) s,Inv s→μ s<f→Wp (loopGo body f s) P:=by
  intro f
  induction f with
  | zero=>intro s _ h;omega
  | succ f ih=>intro s hs hm;exact hb s _ hs (fun s' h' hl=>ih s' h' (by omega))
 exact go fuel s0 h0 hf
theorem ziZ {S R:Type} {body:(Int×S)→((Int×S)→Option R)→Option R} {fuel:Nat} {s0:S} {P:R→Prop} (n:Nat) (hf:n<fuel) (Inv:Nat→S→Prop) (h0:Inv 0 s0)
 (hb:∀ (i:Nat) s (K:(Int×S)→Option R),i≤n→Inv i s→(∀ s',i<n→Inv (i+1) s'→Wp (K ((i:Int)+1,s')) P)→Wp (body ((i:Int),s) K) P):Wp (loopGo body fuel (0,s0)) P:=by
 have go:∀ (f i:Nat) s,i≤n→n - i<f→Inv i s→Wp (loopGo body f ((i:Int),s)) P:=by
  intro f
  induction f with
  | zero=>intro i s _ h;omega
  | succ f ih=>intro i s hi hm hs;exact hb i s _ hi hs (fun s' hl h'=>ih (i+1) s' (by omega) (by omega) h')
 exact go fuel 0 s0 (by omega) (by omega) h0
theorem zqN {R:Type} {body:Int→(Int→Option R)→Option R} {fuel:Nat} {P:R→Prop} (n:Nat) (hf:n<fuel) (Inv:Nat→Prop) (h0:Inv 0)
 (hb:∀ (i:Nat) (K:Int→Option R),i≤n→Inv i→(i<n→Inv (i+1)→Wp (K ((i:Int)+1)) P)→Wp (body (i:Int) K) P):Wp (loopGo body fuel 0) P:=by
 have go:∀ (f i:Nat),i≤n→n - i<f→Inv i→Wp (loopGo body f (i:Int)) P:=by
  intro f
  induction f with
  | zero=>intro i _ h;omega
  | succ f ih=>intro i hi hm hs;exact hb i _ hi hs (fun hl h'=>ih (i+1) (by omega) (by omega) h')
 exact go fuel 0 (by omega) (by omega) h0
theorem zqM {S R:Type} {body:(S×Int)→((S×Int)→Option R)→Option R} {fuel:Nat} {s0:S} {P:R→Prop} (n:Nat) (hf:n<fuel) (Inv:Nat→S→Prop) (h0:Inv 0 s0)
 (hb:∀ (i:Nat) s (K:(S×Int)→Option R),i≤n→Inv i s→(∀ s',i<n→Inv (i+1) s'→Wp (K (s',(i:Int)+1)) P)→Wp (body (s,(i:Int)) K) P):Wp (loopGo body fuel (s0,0)) P:=by
 have go:∀ (f i:Nat) s,i≤n→n - i<f→Inv i s→Wp (loopGo body f (s,(i:Int))) P:=by
  intro f
  induction f with
  | zero=>intro i s _ h;omega
  | succ f ih=>intro i s hi hm hs;exact hb i s _ hi hs (fun s' hl h'=>ih (i+1) s' (by omega) (by omega) h')
 exact go fuel 0 s0 (by omega) (by omega) h0
end Go.Sp
end
/- More rules for plain laws. No program in sight. -/
section
set_option linter.all false
namespace Go.Sp
open Go.Av
theorem zag {R:Type} {n:Int} {x:Option R} {P:R→Prop} (h : -9223372036854775808≤n∧n≤9223372036854775807) (k:Wp x P):Wp (must (inI n) x) P:=zan h k
theorem za5 {R:Type} {n b:Nat} {x:Option R} {P:R→Prop} (h:n * b≤140737488355328∧n≤9223372036854775807) (k:Wp x P):Wp (must (room n b) x) P:=zan h k
theorem zjM {S R:Type} [Inhabited S] {W:Bool} {x:Option S} {k:S→Option R} {P:R→Prop} {Q:S→Prop} (h:W=true→Wp x Q) (hk:∀ s,(W=true→Q s)→Wp (k s) P):Wp (zam (bif W then x else some default) k) P:=by
 cases W
 · exact hk _ (fun h=>by cases h)
 · exact wp_bind (h rfl) (fun s hs=>hk s (fun _=>hs))
end Go.Sp
end
/- Rules for plain laws, more of them. No program in sight. -/
section
set_option linter.all false
namespace Go.Sp
open Go.Av
theorem zhp {R:Type} {body:Nat→Unit→(Unit→Option R)→Option R} {ex:Unit→Option R} {n:Nat} {P:R→Prop} (good:Nat→Prop)
 (hb:∀ (i:Nat) (K:Option R),i<n→(∀ j,j<i→good j)→(good i→Wp K P)→Wp (body i () (fun _=>K)) P) (he:(∀ j,j<n→good j)→Wp (ex ()) P):Wp (zaq body ex n 0 ()) P:=by
 refine zbj (fun i _=>∀ j,j<i→good j) (fun j hj=>by omega) (fun i s K hi hI hK=>?_) (fun s hs=>he hs)
 have e:K=fun _=>K ():=funext fun u=>rfl
 rw [e]
 exact hb i (K ()) hi hI (fun g=>hK () (fun j hj=>by
  by_cases e:j=i
  · rw [e];exact g
  · exact hI j (by omega)))
theorem zln {S R:Type} {W:Bool} {x y:Option S} {k:S→Option R} {P:R→Prop} {v:S} (hW:W=true) (h:x=some v) (hk:Wp (k v) P):Wp (zam (bif W then x else y) k) P:=by
 subst hW;rw [h];exact hk
theorem zmj {S R:Type} {W:Bool} {x y:Option S} {k:S→Option R} {P:R→Prop} {v:S} (hW:W=false) (h:y=some v) (hk:Wp (k v) P):Wp (zam (bif W then x else y) k) P:=by
 subst hW;rw [h];exact hk
theorem zd5 {R:Type} {c:Prop} [Decidable c] (h:c) (x:Option R):must c x=x:=if_pos h
theorem zhD {T:Type} (l:List T) (i j:Nat) (x d:T) (hi:i<l.length):(l.set i x).getD j d=if j=i then x else l.getD j d:=by
 simp only [List.getD_eq_getElem?_getD]
 by_cases e:j=i
 · subst e;rw [List.getElem?_set_self hi,if_pos rfl];rfl
 · rw [List.getElem?_set_ne (fun h=>e h.symm),if_neg e]
theorem zcH {T:Type} (l:List T) (x d:T) (i:Nat):(l++[x]).getD i d=if i=l.length then x else l.getD i d:=by
 simp only [List.getD_eq_getElem?_getD]
 rcases Nat.lt_trichotomy i l.length with h|h|h
 · rw [List.getElem?_append_left h,if_neg (by omega)]
 · subst h;simp
 · rw [if_neg (by omega),List.getElem?_eq_none (by simp;omega),List.getElem?_eq_none (by omega)]
theorem zg0 {T:Type} (n i:Nat) (x:T):(List.replicate n x).getD i x=x:=by
 simp only [List.getD_eq_getElem?_getD,List.getElem?_replicate]
 split <;> rfl
theorem zbq {T:Type} [Inhabited T] {l:List T} {i:Nat} (h:i<l.length):l.getD i default∈l:=by
 rw [List.getD_eq_getElem?_getD,List.getElem?_eq_getElem h];exact List.getElem_mem h
theorem zds {T:Type} [Inhabited T] {l:List T} {x:T} (h:x∈l):∃ i,i<l.length∧l.getD i default=x:=by
 obtain ⟨i,hi,rfl⟩:=List.getElem_of_mem h
 exact ⟨i,hi,by rw [List.getD_eq_getElem?_getD,List.getElem?_eq_getElem hi];rfl⟩
theorem getD_drop {T:Type} (l:List T) (n i:Nat) (d:T):(l.drop n).getD i d=l.getD (n+i) d:=by
 simp only [List.getD_eq_getElem?_getD,List.getElem?_drop]
theorem zeI {T:Type} (l r:List T) (i:Nat) (d:T):(l++r).getD i d=if i<l.length then l.getD i d else r.getD (i - l.length) d:=by
 simp only [List.getD_eq_getElem?_getD]
 split
 · rename_i h;rw [List.getElem?_append_left h]
 · rename_i h;rw [List.getElem?_append_right (by omega)]
theorem zqj {T:Type} [Inhabited T] {l r:List T} (hl:l.length=r.length) (h:∀ i,i<l.length→l.getD i default=r.getD i default):l=r:=by
 refine List.ext_getElem hl (fun i h1 h2=>?_)
 have:=h i h1
 rw [List.getD_eq_getElem?_getD,List.getD_eq_getElem?_getD,List.getElem?_eq_getElem h1,List.getElem?_eq_getElem h2] at this
 exact this
theorem zeU {T:Type} [DecidableEq T]:∀ {l r:List T},l.Nodup→(∀ x∈l,x∈r)→l.length≤r.length
 | [],r,_,_=>Nat.zero_le _
 | x::l,r,hn,hs=>by
  have hx:=hs x List.mem_cons_self
  rw [List.nodup_cons] at hn
  have:=zeU (l:=l) (r:=r.erase x) hn.2 (fun y hy=>(List.mem_erase_of_ne (fun (e:y=x)=>hn.1 (e▸hy))).2 (hs y (List.mem_cons_of_mem _ hy)))
  rw [List.length_erase_of_mem hx] at this
  have:=List.length_pos_of_mem hx
  simp only [List.length_cons];omega
theorem zjg {S T:Type} {f:S→T}:∀ {l:List S},l.Nodup→(∀ x∈l,∀ y∈l,f x=f y→x=y)→(l.map f).Nodup
 | [],_,_=>List.nodup_nil
 | x::l,hn,hi=>by
  rw [List.nodup_cons] at hn
  rw [List.map_cons,List.nodup_cons]
  refine ⟨fun hm=>?_,zjg hn.2 (fun a ha b hb=>hi a (List.mem_cons_of_mem _ ha) b (List.mem_cons_of_mem _ hb))⟩
  obtain ⟨y,hy,e⟩:=List.mem_map.1 hm
  have:=hi x List.mem_cons_self y (List.mem_cons_of_mem _ hy) e.symm
  exact hn.1 (this▸hy)
theorem zqh {x:Int} {j:Nat} (h:0≤x):Int.fdiv x (2 ^ j)=((x.toNat >>> j:Nat):Int):=by
 obtain ⟨n,rfl⟩:=Int.eq_ofNat_of_zero_le h
 rw [Int.toNat_natCast,Nat.shiftRight_eq_div_pow]
 have:(2:Int) ^ j=((2 ^ j:Nat):Int):=by simp
 rw [this,Int.fdiv_eq_ediv_of_nonneg _ (Int.natCast_nonneg _)]
 exact (Int.natCast_ediv _ _).symm
theorem zn8 {A:Type} {body:Nat→Unit→(Unit→Option (List A))→Option (List A)} {n:Nat} (W:Nat→Bool) (x:Nat→A)
 (hb:∀ (i:Nat) (r:Option (List A)),i<n→body i () (fun _=>r)=zkc (W i) (x i) r):zaq body (fun _=>some []) n 0 ()=some (((List.range' 0 n).filter W).map x):=by
 have go:∀ m i,i+m=n→zaq body (fun _=>some []) m i ()=some (((List.range' i m).filter W).map x):=by
  intro m
  induction m with
  | zero=>intro i _;rfl
  | succ m ih=>
   intro i hi
   have e:zaq body (fun _=>some []) (m+1) i ()=body i () (fun u=>zaq body (fun _=>some []) m (i+1) u):=rfl
   rw [e]
   have e2:(fun u=>zaq body (fun _=>some ([]:List A)) m (i+1) u)=fun _=>some (((List.range' (i+1) m).filter W).map x):=by
    funext u;exact ih (i+1) (by omega)
   rw [e2,hb i _ (by omega),List.range'_succ,List.filter_cons]
   cases W i <;> rfl
 exact go n 0 (by omega)
end Go.Sp
end
/- Binary search, and insertion into a sorted list. No program in sight. -/
section
set_option linter.all false
namespace Go.Sp
open Go.Av
theorem zko {T:Type} [Inhabited T] (f:T→Int) {l:List T} (h:∀ i,0<i→i<l.length→f (l.getD (i - 1) default)<f (l.getD i default)):l.Pairwise (fun a b=>f a<f b):=by
 rw [List.pairwise_iff_getElem]
 intro i j hi hj hij
 have step:∀ k,i+1+k<l.length→f l[i]<f (l.getD (i+1+k) default):=by
  intro k
  induction k with
  | zero=>
   intro hk
   have:=h (i+1) (by omega) hk
   have e:l.getD (i+1 - 1) default=l[i]:=by simp [List.getElem?_eq_getElem hi]
   rw [e] at this;exact this
  | succ k ih=>
   intro hk
   have h1:=ih (by omega)
   have h2:=h (i+1+(k+1)) (by omega) hk
   have e:i+1+(k+1) - 1=i+1+k:=by omega
   rw [e] at h2;omega
 have:=step (j - i - 1) (by omega)
 have e:i+1+(j - i - 1)=j:=by omega
 rw [e] at this
 simpa [List.getElem?_eq_getElem hj] using this
theorem zi6 {T:Type} [Inhabited T] {f:T→Int} {l:List T} (hs:l.Pairwise (fun a b=>f a<f b)) {i j:Nat} (hij:i<j) (hj:j<l.length):f (l.getD i default)<f (l.getD j default):=by
 have:=List.pairwise_iff_getElem.1 hs i j (by omega) hj hij
 simpa [List.getElem?_eq_getElem hj,List.getElem?_eq_getElem (show i<l.length by omega)] using this
end Go.Sp
end
/- slices.IndexFunc and slices.DeleteFunc, as they are printed. No program in sight. -/
section
set_option linter.all false
namespace Go.Sp
open Go.Av
set_option maxRecDepth 100000
theorem zgb {T:Type} [Inhabited T] {p:T→Option Bool} {q:T→Bool} (hp:∀ x,p x=some (q x)) (l:List T) :
 (zaq (fun i1 (s1:Unit) k1=>zam (p (l.getD i1 default)) fun y3=>(bif y3 then some (i1:Int) else k1 ())) (fun (s1:Unit)=>some (-1)) l.length 0 ():Option Int)=some (match l.findIdx? q with|some i=>(i:Int)|none=>-1):=by
 refine (zhp (P:=fun r=>r=(match l.findIdx? q with|some i=>(i:Int)|none=>-1)) (fun i=>q (l.getD i default)=false) (fun i K hi hb hK=>?_) (fun h1=>?_)).eq
 · rw [hp]
   refine zcn (fun h=>zau ?_) (fun h=>hK h)
   have:l.findIdx? q=some i:=by
    rw [List.findIdx?_eq_some_iff_getElem]
    refine ⟨hi,?_,fun j hj=>?_⟩
    · rw [List.getD_eq_getElem?_getD,List.getElem?_eq_getElem hi] at h;exact h
    · have:=hb j hj
      rw [List.getD_eq_getElem?_getD,List.getElem?_eq_getElem (by omega)] at this
      simpa using this
   rw [this]
 · refine zau ?_
   have:l.findIdx? q=none:=by
    rw [List.findIdx?_eq_none_iff]
    intro x hx
    obtain ⟨i,hi,rfl⟩:=zds hx
    exact h1 i hi
   rw [this]
end Go.Sp
end
/- Plain laws, mantle: valid batches, mantles, burns, looks and wears, checked by both. No program in sight. -/
section
set_option linter.all false
namespace Go.Sp
open Go.Av
set_option maxRecDepth 100000
structure BatchOk (b:Batch):Prop where
 id:1≤b.Id∧b.Id≤99
 life:0≤b.Life.Lo∧b.Life.Lo≤b.Life.Hi∧b.Life.Hi≤1000000
structure ToldOk (s l n k u:Int):Prop where
 src:1≤s∧s≤99999
 lamp:1≤l∧l≤999
 night:0≤n∧n≤100000
 known:0≤k∧k≤100000
 til:u=0∨(k<u∧u≤100000)
structure MantleOk (m:Mantle):Prop where
 told:ToldOk m.Source m.Lamp m.Night m.Known m.Until
 batch:1≤m.Batch∧m.Batch≤99
structure BurnOk (b:Burn):Prop where
 told:ToldOk b.Source b.Lamp b.Night b.Known b.Until
 min:0≤b.Minutes.Lo∧b.Minutes.Lo≤b.Minutes.Hi∧b.Minutes.Hi≤1440
def zkr (l:Look):Prop:=ToldOk l.Source l.Lamp l.Night l.Known l.Until
theorem mwithin {a b c:Int}:zaC a b c=(decide (b≤a) && decide (a≤c)):=rfl
theorem bif0 (b:Bool) {c:Int} (hc:c≠0):((bif b then c else 0)=0)↔b=false:=by cases b <;> simp [-List.getD_eq_getElem?_getD,hc]
theorem zpy (b:Bool) (c:Int):(bif b then c else 0)=0∨(bif b then c else 0)=c:=by cases b <;> simp [-List.getD_eq_getElem?_getD]
theorem zgv {n k u:Int}:za3 n k u=true↔(0≤n∧n≤100000)∧(0≤k∧k≤100000)∧(u=0∨(k<u∧u≤100000)):=by
 simp only [za3,zaM,mwithin,Bool.and_eq_true,Bool.or_eq_true,decide_eq_true_eq]
 omega
theorem zjk {b:Batch}:zaX b=0↔BatchOk b:=by
 unfold zaX
 rw [bif0 _ (by decide)]
 simp only [zbH,mwithin,Bool.or_eq_false_iff,Bool.not_eq_false',Bool.and_eq_true,decide_eq_true_eq]
 exact ⟨fun h=>⟨h.1,by omega⟩,fun h=>⟨h.id,by have:=h.life;omega⟩⟩
theorem zlI {m:Mantle}:za9 m=0↔MantleOk m:=by
 unfold za9
 rw [bif0 _ (by decide)]
 simp only [zaZ,zaI,mwithin,Bool.or_eq_false_iff,Bool.not_eq_false',Bool.and_eq_true,decide_eq_true_eq,zgv]
 exact ⟨fun h=>⟨⟨h.1.1.1,h.1.1.2,h.2.1,h.2.2.1,h.2.2.2⟩,h.1.2⟩,fun h=>⟨⟨⟨h.told.src,h.told.lamp⟩,h.batch⟩,h.told.night,h.told.known,h.told.til⟩⟩
theorem znZ {m:Burn}:zbu m=0↔BurnOk m:=by
 unfold zbu
 rw [bif0 _ (by decide)]
 simp only [zaZ,zaI,zbH,mwithin,Bool.or_eq_false_iff,Bool.not_eq_false',Bool.and_eq_true,decide_eq_true_eq,zgv]
 exact ⟨fun h=>⟨⟨h.1.1.1,h.1.1.2,h.2.1,h.2.2.1,h.2.2.2⟩,by have:=h.1.2;omega⟩,fun h=>⟨⟨⟨h.told.src,h.told.lamp⟩,by have:=h.min;omega⟩,h.told.night,h.told.known,h.told.til⟩⟩
theorem znY {m:Look}:za4 m=0↔zkr m:=by
 unfold za4
 rw [bif0 _ (by decide)]
 simp only [zaZ,zaI,mwithin,Bool.or_eq_false_iff,Bool.not_eq_false',Bool.and_eq_true,decide_eq_true_eq,zgv]
 exact ⟨fun h=>⟨h.1.1,h.1.2,h.2.1,h.2.2.1,h.2.2.2⟩,fun h=>⟨⟨h.src,h.lamp⟩,h.night,h.known,h.til⟩⟩
theorem zqU (b:Batch):zbg b=zaX b:=by
 have h:zbg b=0↔BatchOk b:=by
  unfold zbg
  rw [bif0 _ (by decide)]
  simp only [zaB,Bool.or_eq_false_iff,Bool.not_eq_false',Bool.and_eq_true,decide_eq_true_eq,decide_eq_false_iff_not]
  exact ⟨fun h=>⟨h.1.1,by omega⟩,fun h=>⟨⟨h.id,by have:=h.life;omega⟩,by have:=h.life;omega⟩⟩
 rw [← zjk] at h
 have h1:=zpy (((!(zaB b.Id 1 99)) || (!(zaB b.Life.Lo 0 b.Life.Hi))) || (decide (1000000<b.Life.Hi))) 60
 have h2:=zpy ((!(zaC b.Id 1 99)) || (!(zbH b.Life 1000000))) 60
 change zbg b=0∨zbg b=60 at h1
 change zaX b=0∨zaX b=60 at h2
 omega
def zfR {T:Type} [Inhabited T] (ok:T→Prop) (num:T→Int) (l:List T):Prop:=∀ i,i<l.length→ok (l.getD i default)∧(0<i→num (l.getD (i - 1) default)<num (l.getD i default))
theorem zgO {T:Type} [Inhabited T] {chk num:T→Int} {ok:T→Prop} (hok:∀ x,chk x=0↔ok x) {l:List T} {p1:Int} (hl:l.length≤9223372036854775807) :
 Wp (zaq (fun i1 (s1:Unit) k1=>zam ((fun x0=>some (chk x0)) (l.getD i1 default)) fun y3=>must ((((!(!decide (y3=0))) && (decide (0<(i1:Int))))=true→(inI ((i1:Int) - 1)))) <| must ((((!(!decide (y3=0))) && (decide (0<(i1:Int))))=true→(0≤(((i1:Int) - 1):Int)∧(((i1:Int) - 1):Int)<((l.length:Nat):Int)))) <| zam ((bif ((!(!decide (y3=0))) && (decide (0<(i1:Int)))) then (fun x0=>some (num x0)) (l.getD (((i1:Int) - 1)).toNat default) else some default)) fun y7=>zam ((bif ((!(!decide (y3=0))) && (decide (0<(i1:Int)))) then (fun x0=>some (num x0)) (l.getD i1 default) else some default)) fun y9=>(bif ((!decide (y3=0)) || ((decide (0<(i1:Int))) && (decide (y9≤y7)))) then some false else k1 ())) (fun (s1:Unit)=>some (decide (((l.length:Nat):Int)≤p1))) l.length 0 ():Option Bool)
  (fun b=>b=true↔zfR ok num l∧(l.length:Int)≤p1):=by
 refine zhp (fun i=>ok (l.getD i default)∧(0<i→num (l.getD (i - 1) default)<num (l.getD i default))) (fun i K hi _ hK=>?_) (fun h1=>zau ?_)
 · refine zax rfl ?_
   refine zan (fun _=>by unfold inI;omega) ?_
   refine zan (fun h=>by simp [-List.getD_eq_getElem?_getD] at h;omega) ?_
   have e:(((i:Int) - 1)).toNat=i - 1:=by omega
   rw [e]
   refine zjM (Q:=fun y=>y=num (l.getD (i - 1) default)) (fun _=>zau rfl) (fun y7 h7=>?_)
   refine zjM (Q:=fun y=>y=num (l.getD i default)) (fun _=>zau rfl) (fun y9 h9=>?_)
   by_cases hc:chk (l.getD i default)=0
   · by_cases h0:0<i
     · have hW:((!(!decide (chk (l.getD i default)=0))) && (decide (0<(i:Int))))=true:=by simp [-List.getD_eq_getElem?_getD,hc,h0]
       rw [h7 hW,h9 hW]
       refine zcn (fun hb=>zau ?_) (fun hb=>hK ⟨(hok _).1 hc,fun _=>?_⟩)
       · simp only [hc,decide_true,Bool.not_true,Bool.false_or,Bool.and_eq_true,decide_eq_true_eq] at hb
         refine ⟨fun h=>(by cases h),fun h=>?_⟩
         have:=(h.1 i hi).2 h0;omega
       · simp only [hc,decide_true,Bool.not_true,Bool.false_or,Bool.and_eq_false_iff,decide_eq_false_iff_not] at hb
         omega
     · refine zaP (by simp [-List.getD_eq_getElem?_getD,hc];omega) (hK ⟨(hok _).1 hc,fun h=>absurd h h0⟩)
   · refine zcN (by simp [-List.getD_eq_getElem?_getD,hc]) (zau ⟨fun h=>(by cases h),fun h=>absurd ((hok _).2 (h.1 i hi).1) hc⟩)
 · simp only [decide_eq_true_eq]
   exact ⟨fun h=>⟨h1,h⟩,fun h=>h.2⟩
structure WearOk (w:Wear):Prop where
 nb:w.Batches.length≤8
 nm:w.Mantles.length≤60
 nu:w.Burns.length≤60
 nl:w.Looks.length≤60
 ba:zfR BatchOk (·.Id) w.Batches
 ma:zfR MantleOk (·.Source) w.Mantles
 bu:zfR BurnOk (·.Source) w.Burns
 lo:zfR zkr (·.Source) w.Looks
 has:∀ i,i<w.Mantles.length→∃ j,j<w.Batches.length∧(w.Batches.getD j default).Id=(w.Mantles.getD i default).Batch
structure Fits (w:Wear):Prop where
 b:w.Batches.length≤4611686018427387904
 m:w.Mantles.length≤4611686018427387904
 u:w.Burns.length≤4611686018427387904
 l:w.Looks.length≤4611686018427387904
theorem WearOk.fits {w:Wear} (h:WearOk w):Fits w:=⟨by have:=h.nb;omega,by have:=h.nm;omega,by have:=h.nu;omega,by have:=h.nl;omega⟩
def zeo (w:Wear) (id:Int):Int:=match w.Batches.findIdx? (fun b=>decide (b.Id=id)) with
 | some i=>(i:Int)
 | none=>-1
theorem zgM (w:Wear) (id:Int):zb1 w id=some (zeo w id):=by
 unfold zb1 zb9
 rw [zgb (p:=fun x0=>some (zcb x0 id)) (q:=fun b=>decide (b.Id=id)) (fun x=>rfl)]
 rfl
theorem zio {w:Wear} {id:Int}:zeo w id<0↔¬ ∃ j,j<w.Batches.length∧(w.Batches.getD j default).Id=id:=by
 unfold zeo
 cases h:w.Batches.findIdx? (fun b=>decide (b.Id=id)) with
 | none=>
  rw [List.findIdx?_eq_none_iff] at h
  simp only [Int.reduceNeg,Int.reduceLT,true_iff]
  rintro ⟨j,hj,e⟩
  have:=h _ (zbq hj)
  simp [-List.getD_eq_getElem?_getD,e] at this
 | some i=>
  rw [List.findIdx?_eq_some_iff_getElem] at h
  obtain ⟨h1,h2,h3⟩:=h
  refine ⟨fun h=>by simp [-List.getD_eq_getElem?_getD] at h;omega,fun h=>absurd ⟨i,h1,?_⟩ h⟩
  rw [List.getD_eq_getElem?_getD,List.getElem?_eq_getElem h1]
  simpa [-List.getD_eq_getElem?_getD] using h2
theorem zpz (w:Wear) (id:Int):zeo w id<(w.Batches.length:Int):=by
 unfold zeo
 cases h:w.Batches.findIdx? (fun b=>decide (b.Id=id)) with
 | none=>simp [-List.getD_eq_getElem?_getD];omega
 | some i=>
  rw [List.findIdx?_eq_some_iff_getElem] at h
  obtain ⟨h1,h2,h3⟩:=h
  simp [-List.getD_eq_getElem?_getD];omega
theorem zpA {w:Wear} {id:Int} (h:0≤zeo w id):(w.Batches.getD (zeo w id).toNat default).Id=id:=by
 unfold zeo at h ⊢
 cases h':w.Batches.findIdx? (fun b=>decide (b.Id=id)) with
 | none=>rw [h'] at h;simp [-List.getD_eq_getElem?_getD] at h
 | some i=>
  rw [List.findIdx?_eq_some_iff_getElem] at h'
  obtain ⟨h1,h2,h3⟩:=h'
  simp only [Int.toNat_natCast]
  rw [List.getD_eq_getElem?_getD,List.getElem?_eq_getElem h1]
  simpa [-List.getD_eq_getElem?_getD] using h2
theorem zfR.sorted {T:Type} [Inhabited T] {ok:T→Prop} {num:T→Int} {l:List T} (h:zfR ok num l):l.Pairwise (fun a b=>num a<num b):=zko num (fun i h0 hi=>(h i hi).2 h0)
theorem zfR.ok {T:Type} [Inhabited T] {ok:T→Prop} {num:T→Int} {l:List T} (h:zfR ok num l) {x:T} (hx:x∈l):ok x:=by
 obtain ⟨i,hi,rfl⟩:=zds hx
 exact (h i hi).1
theorem zfR.inj {T:Type} [Inhabited T] {ok:T→Prop} {num:T→Int} {l:List T} (h:zfR ok num l) {i j:Nat} (hi:i<l.length) (hj:j<l.length) (e:num (l.getD i default)=num (l.getD j default)):i=j:=by
 rcases Nat.lt_trichotomy i j with h1|h1|h1
 · have:=zi6 h.sorted h1 hj;omega
 · exact h1
 · have:=zi6 h.sorted h1 hi;omega
theorem zoL {w:Wear} (hf:Fits w):Wp (zce w) (fun r=>(WearOk w∧r=0)∨(¬ WearOk w∧r=64)):=by
 unfold zce
 have a1:=zgO (chk:=zaX) (num:=zcL) (fun _=>zjk) (l:=w.Batches) (p1:=8) (by have:=hf.b;omega)
 have a2:=zgO (chk:=za9) (num:=zcK) (fun _=>zlI) (l:=w.Mantles) (p1:=60) (by have:=hf.m;omega)
 have a3:=zgO (chk:=zbu) (num:=zcJ) (fun _=>znZ) (l:=w.Burns) (p1:=60) (by have:=hf.u;omega)
 have a4:=zgO (chk:=za4) (num:=zdc) (fun _=>znY) (l:=w.Looks) (p1:=60) (by have:=hf.l;omega)
 refine wp_bind (x:=zcl w.Batches 8 _ _) a1 (fun y1 h1=>?_)
 refine wp_bind (x:=zcd w.Mantles 60 _ _) a2 (fun y3 h3=>?_)
 refine wp_bind (x:=zcz w.Burns 60 _ _) a3 (fun y5 h5=>?_)
 refine zjM (Q:=fun y=>y=true↔zfR zkr (·.Source) w.Looks∧(w.Looks.length:Int)≤60) (fun _=>a4) (fun y7 h7=>?_)
 refine zjM (Q:=fun y=>y=false↔∀ i,i<w.Mantles.length→∃ j,j<w.Batches.length∧(w.Batches.getD j default).Id=(w.Mantles.getD i default).Batch) (fun _=>?_) (fun y9 h9=>?_)
 · unfold zbx zbX
   rw [zgb (p:=fun x0=>zcI x0 w) (q:=fun m=>decide (zeo w m.Batch<0)) (fun x=>by
    unfold zcI;rw [zgM];rfl)]
   refine zax rfl (zau ?_)
   cases h:w.Mantles.findIdx? (fun m=>decide (zeo w m.Batch<0)) with
   | none=>
    rw [List.findIdx?_eq_none_iff] at h
    refine ⟨fun _ i hi=>?_,fun _=>rfl⟩
    have:=h _ (zbq hi)
    simp only [decide_eq_false_iff_not,zio,Classical.not_not] at this
    exact this
   | some i=>
    rw [List.findIdx?_eq_some_iff_getElem] at h
    obtain ⟨k1,k2,k3⟩:=h
    refine ⟨fun e=>(by simp [-List.getD_eq_getElem?_getD] at e),fun e=>?_⟩
    have:=e i k1
    rw [List.getD_eq_getElem?_getD (l:=w.Mantles),List.getElem?_eq_getElem k1] at this
    simp only [decide_eq_true_eq,zio] at k2
    exact absurd this k2
 · refine zcn (fun hb=>zau (.inr ⟨fun V=>?_,rfl⟩)) (fun hb=>zau (.inl ⟨?_,rfl⟩))
   · have e1:=h1.2 ⟨V.ba,by have:=V.nb;omega⟩
     have e3:=h3.2 ⟨V.ma,by have:=V.nm;omega⟩
     have e5:=h5.2 ⟨V.bu,by have:=V.nu;omega⟩
     have e7:=(h7 (by simp [-List.getD_eq_getElem?_getD,e1,e3,e5])).2 ⟨V.lo,by have:=V.nl;omega⟩
     have e9:=(h9 (by simp [-List.getD_eq_getElem?_getD,e1,e3,e5,e7])).2 V.has
     simp [-List.getD_eq_getElem?_getD,e1,e3,e5,e7,e9] at hb
   · simp only [Bool.or_eq_false_iff,Bool.not_eq_false'] at hb
     obtain ⟨⟨⟨⟨e1,e3⟩,e5⟩,e7⟩,e9⟩:=hb
     have f7:=(h7 (by simp [-List.getD_eq_getElem?_getD,e1,e3,e5])).1 e7
     have f9:=(h9 (by simp [-List.getD_eq_getElem?_getD,e1,e3,e5,e7])).1 e9
     have f1:=h1.1 e1
     have f3:=h3.1 e3
     have f5:=h5.1 e5
     exact ⟨by omega,by omega,by omega,by omega,f1.1,f3.1,f5.1,f7.1,f9⟩
theorem zhA {w:Wear} (h:WearOk w):zce w=some 0:=by
 obtain ⟨r,e,h1|h1⟩:=zoL h.fits
 · rw [e,h1.2]
 · exact absurd h h1.1
end Go.Sp
end
/- Plain laws, mantle: the document's check; one look more, by both; MantleChecks. No program in sight. -/
section
set_option linter.all false
namespace Go.Sp
open Go.Av
set_option maxRecDepth 100000
theorem zkv {R:Type} {body:Int→(Int→Option R)→Option R} {fuel:Nat} {P:R→Prop} {n:Nat} (hf:n<fuel) (good:Nat→Prop)
 (hb:∀ (i:Nat) (K:Int→Option R),i<n→(∀ j,j<i→good j)→(good i→Wp (K ((i:Int)+1)) P)→Wp (body (i:Int) K) P) (he:(∀ j,j<n→good j)→∀ K,Wp (body (n:Int) K) P):Wp (loopGo body fuel 0) P:=by
 refine zqN n hf (fun i=>∀ j,j<i→good j) (fun j hj=>by omega) (fun i K hi hI hK=>?_)
 by_cases e:i=n
 · subst e;exact he hI K
 · exact hb i K (by omega) hI (fun g=>hK (by omega) (fun j hj=>by
    by_cases e:j=i
    · rw [e];exact g
    · exact hI j (by omega)))
end Go.Sp
end
/- Plain laws, mantle: the chapter's examples. -/
section
set_option linter.all false
namespace Go.Sp
open Go.Av
theorem zon:zdQ 20000=some true:=by kernel_rfl
end Go.Sp
end
/- Plain laws, mantle: one look more, by both; MantleChecks. No program in sight. -/
section
set_option linter.all false
namespace Go.Sp
open Go.Av
set_option maxRecDepth 100000
theorem cmpI (a b:Int):zbs a b=if a<b then -1 else if b<a then 1 else 0:=by
 unfold zbs cmp_isNaN_int
 by_cases h1:a<b
 · simp [-List.getD_eq_getElem?_getD,h1]
 · by_cases h2:b<a <;> simp [-List.getD_eq_getElem?_getD,h1,h2]
structure InsAt (l:List Look) (x:Look) (k:Nat):Prop where
 le:k≤l.length
 lo:∀ i,i<k→(l.getD i default).Source<x.Source
 hi:∀ i,k≤i→i<l.length→¬ (l.getD i default).Source<x.Source
def zpn:Wear:=⟨[],[],[],[]⟩
end Go.Sp
end
/- Plain laws: slices.SortStableFunc on ints ends, and what it leaves is a rearrangement. No program in sight. -/
section
set_option linter.all false
namespace Go.Sp
open Go.Av
set_option maxRecDepth 100000
theorem swap_perm {l s:List Int} (h:s.Perm l) {i j:Int} (hi:0≤i∧i<(s.length:Int)) (hj:0≤j∧j<(s.length:Int)) :
 ((s.set i.toNat (s.getD j.toNat default)).set j.toNat (s.getD i.toNat default)).Perm l:=by
 have h1:i.toNat<s.length:=by omega
 have h2:j.toNat<s.length:=by omega
 rw [List.getD_eq_getElem?_getD,List.getElem?_eq_getElem h2,List.getD_eq_getElem?_getD,List.getElem?_eq_getElem h1]
 exact (List.set_set_perm h1 h2).trans h
theorem half {x:Int} (h:0≤x):Int.fdiv x (2 ^ (1:Int).toNat)=x / 2:=by
 rw [show (1:Int).toNat=1 from rfl,Int.fdiv_eq_ediv_of_nonneg _ (by decide)];rfl
theorem zjj {l s:List Int} (h:s.Perm l) {i:Nat} (hi:i<s.length):s.getD i default∈l:=h.mem_iff.1 (zbq hi)
def Cmp (l:List Int) (c:Int→Int→Option Int):Prop:=∀ a∈l,∀ b∈l,∃ r,c a b=some r
theorem Cmp.perm {l s:List Int} {c:Int→Int→Option Int} (H:Cmp l c) (h:s.Perm l):Cmp s c:=fun a ha b hb=>H a (h.mem_iff.1 ha) b (h.mem_iff.1 hb)
theorem ziA {fuel:Nat} (hf:1000≤fuel) {l:List Int} (hl:l.length≤100) {c:Int→Int→Option Int} (H:Cmp l c) {a b:Int} (ha:0≤a∧a≤1000) (hb:b≤(l.length:Int)) :
 Wp (zaN fuel l a b c) (fun r=>r.Perm l):=by
 unfold zaN
 refine zag (by omega) ?_
 refine wp_loop (fun s=>a<s.1∧s.2.Perm l) (fun s=>(b - s.1).toNat) (by simp only;omega) ⟨by simp only;omega,.refl _⟩ (fun s K hI hK=>?_)
 obtain ⟨i,s⟩:=s
 obtain ⟨h1,h2⟩:=hI
 simp only at h1 h2 hK ⊢
 refine zbt (fun hlt=>?_) (fun _=>zau h2)
 refine wp_loop (fun t=>a≤t.1∧t.1≤i∧t.2.Perm l) (fun t=>(t.1 - a).toNat) (by simp only;omega) ⟨by simp only;omega,by simp only;omega,h2⟩ (fun t K2 hI2 hK2=>?_)
 obtain ⟨j,t⟩:=t
 obtain ⟨g1,g2,g3⟩:=hI2
 simp only at g1 g2 g3 hK2 ⊢
 have hlen:=g3.length_eq
 refine zan (fun h=>by have:=of_decide_eq_true h;omega) (zan (fun h=>by unfold inI;omega) (zan (fun h=>by have:=of_decide_eq_true h;omega) ?_))
 refine zjM (Q:=fun _=>True) (fun h=>?_) (fun y _=>?_)
 · have:=of_decide_eq_true h
   obtain ⟨r,e⟩:=H _ (zjj g3 (i:=j.toNat) (by omega)) _ (zjj g3 (i:=(j - 1).toNat) (by omega))
   exact ⟨r,e,trivial⟩
 refine zcn (fun h=>?_) (fun h=>zag (by omega) (hK _ ⟨by simp only;omega,g3⟩ (by simp only;omega)))
 simp only [Bool.and_eq_true,decide_eq_true_eq] at h
 refine zag (by omega) (zag (by omega) (zan (by omega) (zan (by omega) (zan (by omega) (zan (by rw [List.length_set];omega) (zag (by omega) ?_))))))
 exact hK2 _ ⟨by simp only;omega,by simp only;omega,swap_perm g3 (by omega) (by omega)⟩ (by simp only;omega)
theorem zf0 {fuel:Nat} (hf:1000≤fuel) {l:List Int} (hl:l.length≤100) {c:Int→Int→Option Int} {a b n:Int} (ha:0≤a) (hb:0≤b) (han:a+n≤(l.length:Int)) (hbn:b+n≤(l.length:Int)) :
 Wp (zaO fuel l a b n c) (fun r=>r.Perm l):=by
 unfold zaO
 refine wp_loop (fun s=>0≤s.1∧s.2.Perm l) (fun s=>(n - s.1).toNat) (by simp only;omega) ⟨by simp [-List.getD_eq_getElem?_getD],.refl _⟩ (fun s K hI hK=>?_)
 obtain ⟨i,s⟩:=s
 obtain ⟨h1,h2⟩:=hI
 simp only at h1 h2 hK ⊢
 have hlen:=h2.length_eq
 refine zbt (fun hlt=>?_) (fun _=>zau h2)
 refine zag (by omega) (zag (by omega) (zag (by omega) (zan (by omega) (zag (by omega) (zan (by omega) (zan (by omega) (zan (by rw [List.length_set];omega) (zag (by omega) ?_))))))))
 exact hK _ ⟨by simp only;omega,swap_perm h2 (by omega) (by omega)⟩ (by simp only;omega)
theorem zos {fuel:Nat} (hf:1000≤fuel) {l:List Int} (hl:l.length≤100) {c:Int→Int→Option Int} {a m b:Int} (ha:0≤a) (ham:a<m) (hmb:m<b) (hb:b≤(l.length:Int)) :
 Wp (za6 fuel l a m b c) (fun r=>r.Perm l):=by
 unfold za6
 refine zag (by omega) (zag (by omega) ?_)
 refine wp_loop (fun s=>1≤s.1∧s.1≤m - a∧1≤s.2.1∧s.2.1≤b - m∧s.2.2.Perm l) (fun s=>(s.1+s.2.1).toNat) (by simp only;omega) ⟨by simp only;omega,by simp only;omega,by simp only;omega,by simp only;omega,.refl _⟩ (fun s K hI hK=>?_)
 obtain ⟨i,j,s⟩:=s
 obtain ⟨h1,h2,h3,h4,h5⟩:=hI
 simp only at h1 h2 h3 h4 h5 hK ⊢
 have hlen:=h5.length_eq
 refine zho (fun hne=>?_) (fun he=>?_)
 · refine zbt (fun hlt=>?_) (fun hge=>?_)
   · refine zag (by omega) (wp_bind (zf0 hf (by omega) (by omega) (by omega) (by omega) (by omega)) (fun y hy=>zan hy.length_eq (zag (by omega) (hK _ ⟨by simp only;omega,by simp only;omega,by simp only;omega,by simp only;omega,hy.trans h5⟩ (by simp only;omega)))))
   · refine zag (by omega) (zag (by omega) (zag (by omega) (wp_bind (zf0 hf (by omega) (by omega) (by omega) (by omega) (by omega)) (fun y hy=>zan hy.length_eq (zag (by omega) (hK _ ⟨by simp only;omega,by simp only;omega,by simp only;omega,by simp only;omega,hy.trans h5⟩ (by simp only;omega)))))))
 · exact zag (by omega) (wp_bind (zf0 hf (by omega) (by omega) (by omega) (by omega) (by omega)) (fun y hy=>zau (hy.trans h5)))
theorem zft {fuel:Nat} (hf:1000≤fuel) {c:Int→Int→Option Int}:∀ (n:Nat) {l:List Int},l.length≤100→Cmp l c→∀ {a m b:Int},0≤a→a<m→m<b→b≤(l.length:Int)→(b - a).toNat<n →
 Wp (zaQ fuel n l a m b c) (fun r=>r.Perm l)
 | 0,l,_,_,a,m,b,_,_,_,_,hn=>absurd hn (Nat.not_lt_zero _)
 | n+1,l,hl,H,a,m,b,ha,ham,hmb,hb,hn=>by
  show Wp (zaY fuel (zaQ fuel n) l a m b c) _
  unfold zaY
  have hc:∀ i j:Int,0≤i→i<(l.length:Int)→0≤j→j<(l.length:Int)→Wp (c (l.getD i.toNat default) (l.getD j.toNat default)) (fun _=>True):=fun i j h1 h2 h3 h4=>by
   obtain ⟨r,e⟩:=H _ (zbq (l:=l) (i:=i.toNat) (by omega)) _ (zbq (l:=l) (i:=j.toNat) (by omega))
   exact ⟨r,e,trivial⟩
  refine zag (by omega) ?_
  refine zbt (fun e1=>?_) (fun e1=>?_)
  · refine wp_loop (fun s=>m≤s.1∧s.1≤s.2∧s.2≤b) (fun s=>(s.2 - s.1).toNat) (by simp only;omega) ⟨by simp only;omega,by simp only;omega,by simp [-List.getD_eq_getElem?_getD]⟩ (fun s K hI hK=>?_)
    obtain ⟨i,j⟩:=s
    obtain ⟨h1,h2,h3⟩:=hI
    simp only at h1 h2 h3 hK ⊢
    refine zbt (fun hlt=>?_) (fun hge=>?_)
    · rw [half (by omega)]
      refine zag (by omega) (zan (by unfold inU;omega) (zag (by omega) (zan (by omega) (zan (by omega) (wp_bind (hc _ _ (by omega) (by omega) (by omega) (by omega)) (fun y _=>?_))))))
      refine zbt (fun _=>zag (by omega) (hK _ ⟨by simp only;omega,by simp only;omega,by simp only;omega⟩ (by simp only;omega))) (fun _=>hK _ ⟨by simp only;omega,by simp only;omega,by simp only;omega⟩ (by simp only;omega))
    · refine wp_loop (fun s=>0≤s.1∧s.2.Perm l) (fun s=>(b - s.1).toNat) (by simp only;omega) ⟨by simp only;omega,.refl _⟩ (fun s K2 hI2 hK2=>?_)
      obtain ⟨k,s⟩:=s
      obtain ⟨g1,g2⟩:=hI2
      simp only at g1 g2 hK2 ⊢
      have hlen:=g2.length_eq
      refine zag (by omega) (zbt (fun hk=>?_) (fun _=>zau g2))
      refine zag (by omega) (zag (by omega) (zan (by omega) (zan (by omega) (zan (by omega) (zan (by rw [List.length_set];omega) (zag (by omega) ?_))))))
      exact hK2 _ ⟨by simp only;omega,swap_perm g2 (by omega) (by omega)⟩ (by simp only;omega)
  refine zag (by omega) ?_
  refine zbt (fun e2=>?_) (fun e2=>?_)
  · refine wp_loop (fun s=>a≤s.1∧s.1≤s.2∧s.2≤m) (fun s=>(s.2 - s.1).toNat) (by simp only;omega) ⟨by simp [-List.getD_eq_getElem?_getD],by simp only;omega,by simp [-List.getD_eq_getElem?_getD]⟩ (fun s K hI hK=>?_)
    obtain ⟨i,j⟩:=s
    obtain ⟨h1,h2,h3⟩:=hI
    simp only at h1 h2 h3 hK ⊢
    refine zbt (fun hlt=>?_) (fun hge=>?_)
    · rw [half (by omega)]
      refine zag (by omega) (zan (by unfold inU;omega) (zag (by omega) (zan (by omega) (zan (by omega) (wp_bind (hc _ _ (by omega) (by omega) (by omega) (by omega)) (fun y _=>?_))))))
      refine zho (fun _=>zag (by omega) (hK _ ⟨by simp only;omega,by simp only;omega,by simp only;omega⟩ (by simp only;omega))) (fun _=>hK _ ⟨by simp only;omega,by simp only;omega,by simp only;omega⟩ (by simp only;omega))
    · refine wp_loop (fun s=>s.1≤m∧s.2.Perm l) (fun s=>(s.1 - i).toNat) (by simp only;omega) ⟨by simp [-List.getD_eq_getElem?_getD],.refl _⟩ (fun s K2 hI2 hK2=>?_)
      obtain ⟨k,s⟩:=s
      obtain ⟨g1,g2⟩:=hI2
      simp only at g1 g2 hK2 ⊢
      have hlen:=g2.length_eq
      refine zbt (fun hk=>?_) (fun _=>zau g2)
      refine zag (by omega) (zag (by omega) (zan (by omega) (zan (by omega) (zan (by omega) (zan (by rw [List.length_set];omega) (zag (by omega) ?_))))))
      exact hK2 _ ⟨by simp only;omega,swap_perm g2 (by omega) (by omega)⟩ (by simp only;omega)
  rw [half (by omega)]
  refine zag (by omega) (zan (by unfold inU;omega) (zag (by omega) (zag (by omega) ?_)))
  have hmid:a<(a+b) / 2∧(a+b) / 2<b:=by omega
  generalize hmd:(a+b) / 2=mid at hmid ⊢
  have hm2:2 * mid≤a+b∧a+b≤2 * mid+1:=by omega
  refine zfr (fun s=>a≤s.1∧mid+m - b≤s.1∧s.1≤s.2∧(s.2=mid∧mid<m∨s.2=m∧m≤mid)) (fun K hK=>?_) (fun s hs=>?_)
  · refine zbt (fun h=>zag (by omega) (hK _ ⟨by simp only;omega,by simp only;omega,by simp only;omega,.inl ⟨rfl,h⟩⟩)) (fun h=>hK _ ⟨by simp [-List.getD_eq_getElem?_getD],by simp only;omega,by simp only;omega,.inr ⟨rfl,by omega⟩⟩)
  obtain ⟨st,r⟩:=s
  obtain ⟨s1,s2,s3,s4⟩:=hs
  simp only at s1 s2 s3 s4 ⊢
  refine zag (by omega) ?_
  refine wp_loop (fun s=>st≤s.1∧s.1≤s.2∧s.2≤r) (fun s=>(s.2 - s.1).toNat) (by simp only;omega) ⟨by simp [-List.getD_eq_getElem?_getD],s3,by simp [-List.getD_eq_getElem?_getD]⟩ (fun s K hI hK=>?_)
  obtain ⟨i,j⟩:=s
  obtain ⟨h1,h2,h3⟩:=hI
  simp only at h1 h2 h3 hK ⊢
  refine zbt (fun hlt=>?_) (fun hge=>?_)
  · rw [half (by omega)]
    refine zag (by omega) (zan (by unfold inU;omega) (zag (by omega) (zag (by omega) (zan (by omega) (zan (by omega) (wp_bind (hc _ _ (by omega) (by omega) (by omega) (by omega)) (fun y _=>?_)))))))
    refine zho (fun _=>zag (by omega) (hK _ ⟨by simp only;omega,by simp only;omega,by simp only;omega⟩ (by simp only;omega))) (fun _=>hK _ ⟨by simp only;omega,by simp only;omega,by simp only;omega⟩ (by simp only;omega))
  refine zag (by omega) ?_
  refine zfr (fun s=>s.Perm l) (fun K hK=>?_) (fun s hs=>?_)
  · refine zcn (fun h=>?_) (fun h=>hK _ (.refl _))
    simp only [Bool.and_eq_true,decide_eq_true_eq] at h
    exact wp_bind (zos hf hl (by omega) (by omega) (by omega) (by omega)) (fun y hy=>zan hy.length_eq (hK _ hy))
  have hsl:=hs.length_eq
  refine zfr (fun s=>s.Perm l) (fun K hK=>?_) (fun t ht=>?_)
  · refine zcn (fun h=>?_) (fun h=>hK _ hs)
    simp only [Bool.and_eq_true,decide_eq_true_eq] at h
    exact wp_bind (zft hf n (by omega) (H.perm hs) (by omega) (by omega) (by omega) (by omega) (by omega)) (fun y hy=>zan hy.length_eq (hK _ (hy.trans hs)))
  have htl:=ht.length_eq
  refine zcn (fun h=>?_) (fun h=>zau ht)
  simp only [Bool.and_eq_true,decide_eq_true_eq] at h
  exact wp_bind (zft hf n (by omega) (H.perm ht) (by omega) (by omega) (by omega) (by omega) (by omega)) (fun y hy=>zau (hy.trans ht))
theorem zkB {fuel:Nat} (hf:1000≤fuel) {l:List Int} (hl:l.length≤100) {c:Int→Int→Option Int} (H:Cmp l c):Wp (zaD fuel l c) (fun r=>r.Perm l):=by
 unfold zaD
 refine wp_bind (Q:=fun r=>r.Perm l) ?_ (fun y hy=>zau hy)
 unfold zbw
 refine wp_loop (fun s=>0≤s.1∧s.1+20=s.2.1∧s.1≤(l.length:Int)∧s.2.2.Perm l) (fun s=>(200 - s.1).toNat) (by simp only;omega) ⟨by simp [-List.getD_eq_getElem?_getD],by simp [-List.getD_eq_getElem?_getD],by simp only;omega,.refl _⟩ (fun s K hI hK=>?_)
 obtain ⟨i,j,s⟩:=s
 obtain ⟨h1,h2,h3,h4⟩:=hI
 simp only at h1 h2 h3 h4 hK ⊢
 have hlen:=h4.length_eq
 refine zbt (fun hlt=>?_) (fun hge=>?_)
 · exact wp_bind (ziA hf (by omega) (H.perm h4) (by omega) (by omega)) (fun y hy=>zan hy.length_eq (zag (by omega) (hK _ ⟨by simp only;omega,by simp only,by simp only;omega,hy.trans h4⟩ (by simp only;omega))))
 refine wp_bind (ziA hf (by omega) (H.perm h4) (by omega) (by omega)) (fun y hy=>zan hy.length_eq ?_)
 have hy':=hy.trans h4
 refine wp_loop (fun s=>20≤s.1∧s.1≤200∧s.2.Perm l) (fun s=>(200 - s.1).toNat) (by simp only;omega) ⟨by simp [-List.getD_eq_getElem?_getD],by simp [-List.getD_eq_getElem?_getD],hy'⟩ (fun t K2 hI2 hK2=>?_)
 obtain ⟨bs,t⟩:=t
 obtain ⟨g1,g2,g3⟩:=hI2
 simp only at g1 g2 g3 hK2 ⊢
 refine zbt (fun hbs=>?_) (fun _=>zau g3)
 refine zag (by omega) ?_
 refine wp_loop (fun s=>0≤s.1∧s.1+2 * bs=s.2.1∧s.1≤(l.length:Int)∧s.2.2.Perm l) (fun s=>(1000 - s.1).toNat - 100) (by simp only;omega) ⟨by simp [-List.getD_eq_getElem?_getD],by simp [-List.getD_eq_getElem?_getD],by simp only;omega,g3⟩ (fun u K3 hI3 hK3=>?_)
 obtain ⟨x,z,u⟩:=u
 obtain ⟨u1,u2,u3,u4⟩:=hI3
 simp only at u1 u2 u3 u4 hK3 ⊢
 have hul:=u4.length_eq
 refine zbt (fun hz=>?_) (fun hz=>?_)
 · exact zag (by omega) (wp_bind (zft hf fuel (by omega) (H.perm u4) (by omega) (by omega) (by omega) (by omega) (by omega)) (fun y hy=>zan hy.length_eq (zag (by omega) (zag (by omega) (hK3 _ ⟨by simp only;omega,by simp only,by simp only;omega,hy.trans u4⟩ (by simp only;omega))))))
 refine zag (by omega) ?_
 refine zfr (fun s=>s.Perm l) (fun K4 hK4=>?_) (fun v hv=>zag (by omega) (hK2 _ ⟨by simp only;omega,by simp only;omega,hv⟩ (by simp only;omega)))
 refine zbt (fun hx=>?_) (fun hx=>hK4 _ u4)
 exact wp_bind (zft hf fuel (by omega) (H.perm u4) (by omega) (by omega) (by omega) (by omega) (by omega)) (fun y hy=>zan hy.length_eq (hK4 _ (hy.trans u4)))
end Go.Sp
end
/- Plain laws, mantle: which mantle a lamp has, by both; which burns tell; ages as sums. No program in sight. -/
section
set_option linter.all false
namespace Go.Sp
open Go.Av
set_option maxRecDepth 100000
def mt (w:Wear) (i:Nat):Mantle:=w.Mantles.getD i default
def bn (w:Wear) (i:Nat):Burn:=w.Burns.getD i default
def Cand (w:Wear) (lamp night known:Int) (j:Nat):Prop:=(mt w j).Lamp=lamp∧(mt w j).Night≤night∧zap (mt w j).Known (mt w j).Until known=true
instance (w:Wear) (lamp night known:Int) (j:Nat):Decidable (Cand w lamp night known j):=inferInstanceAs (Decidable (_∧_∧_))
def fitN (w:Wear) (lamp night known:Int):Nat→Int
 | 0=>-1
 | n+1=>if Cand w lamp night known n∧(fitN w lamp night known n<0∨(mt w (fitN w lamp night known n).toNat).Night≤(mt w n).Night) then (n:Int) else fitN w lamp night known n
def fit (w:Wear) (lamp night known:Int):Int:=fitN w lamp night known w.Mantles.length
structure FitIs (w:Wear) (lamp night known:Int) (n:Nat) (i:Nat):Prop where
 lt:i<n
 cand:Cand w lamp night known i
 top:∀ j,j<n→Cand w lamp night known j→(mt w j).Night≤(mt w i).Night∧(i<j→(mt w j).Night<(mt w i).Night)
theorem zju (w:Wear) (lamp night known:Int):∀ n,(fitN w lamp night known n = -1∧∀ j,j<n→¬ Cand w lamp night known j)∨∃ i:Nat,fitN w lamp night known n=(i:Int)∧FitIs w lamp night known n i
 | 0=>.inl ⟨rfl,fun j hj=>absurd hj (Nat.not_lt_zero _)⟩
 | n+1=>by
  unfold fitN
  rcases zju w lamp night known n with ⟨e,h⟩|⟨i,e,h⟩
  · rw [e]
    by_cases hc:Cand w lamp night known n
    · rw [if_pos ⟨hc,.inl (by omega)⟩]
      refine .inr ⟨n,rfl,by omega,hc,fun j hj hcj=>?_⟩
      by_cases e:j=n
      · subst e;exact ⟨Int.le_refl _,fun h=>absurd h (Nat.lt_irrefl _)⟩
      · exact absurd hcj (h j (by omega))
    · rw [if_neg (fun h=>hc h.1)]
      refine .inl ⟨rfl,fun j hj=>?_⟩
      by_cases e:j=n
      · rw [e];exact hc
      · exact h j (by omega)
  · rw [e,Int.toNat_natCast]
    by_cases hc:Cand w lamp night known n∧((i:Int)<0∨(mt w i).Night≤(mt w n).Night)
    · rw [if_pos hc]
      have h2:(mt w i).Night≤(mt w n).Night:=hc.2.resolve_left (by omega)
      refine .inr ⟨n,rfl,by omega,hc.1,fun j hj hcj=>?_⟩
      by_cases e:j=n
      · subst e;exact ⟨Int.le_refl _,fun h=>absurd h (Nat.lt_irrefl _)⟩
      · have:=(h.top j (by omega) hcj).1
        exact ⟨by omega,fun h=>by omega⟩
    · rw [if_neg hc]
      refine .inr ⟨i,rfl,by have:=h.lt;omega,h.cand,fun j hj hcj=>?_⟩
      by_cases e:j=n
      · subst e
        have:¬ (mt w i).Night≤(mt w j).Night:=fun h=>hc ⟨hcj,.inr h⟩
        exact ⟨by omega,fun _=>by omega⟩
      · exact h.top j (by omega) hcj
theorem zkW (w:Wear) (lamp night known:Int):(fit w lamp night known = -1∧∀ j,j<w.Mantles.length→¬ Cand w lamp night known j)∨∃ i:Nat,fit w lamp night known=(i:Int)∧FitIs w lamp night known w.Mantles.length i:=zju w lamp night known _
theorem FitIs.eq {w:Wear} {lamp night known:Int} {i j:Nat} (h1:FitIs w lamp night known w.Mantles.length i) (h2:FitIs w lamp night known w.Mantles.length j):i=j:=by
 have a:=h1.top j h2.lt h2.cand
 have b:=h2.top i h1.lt h1.cand
 rcases Nat.lt_trichotomy i j with h|h|h
 · have:=a.2 h;omega
 · exact h
 · have:=b.2 h;omega
theorem FitIs.fit {w:Wear} {lamp night known:Int} {i:Nat} (h:FitIs w lamp night known w.Mantles.length i):fit w lamp night known=(i:Int):=by
 rcases zkW w lamp night known with ⟨e,h2⟩|⟨j,e,h2⟩
 · exact absurd h.cand (h2 i h.lt)
 · rw [e,h2.eq h]
theorem zny {w:Wear} {lamp night known:Int} {i:Nat} (h:Go.Sp.fit w lamp night known=(i:Int)):FitIs w lamp night known w.Mantles.length i:=by
 rcases zkW w lamp night known with ⟨e,h2⟩|⟨j,e,h2⟩
 · omega
 · have:i=j:=by omega
   subst this;exact h2
theorem zpa (w:Wear) (lamp night known:Int) : -1≤fit w lamp night known∧fit w lamp night known<(w.Mantles.length:Int):=by
 rcases zkW w lamp night known with ⟨e,_⟩|⟨j,e,h⟩
 · omega
 · have:=h.lt;omega
theorem FitIs.earlier {w:Wear} {lamp night known night':Int} {i:Nat} (h:FitIs w lamp night known w.Mantles.length i) (h1:(mt w i).Night≤night') (h2:night'≤night):FitIs w lamp night' known w.Mantles.length i:=
 ⟨h.lt,⟨h.cand.1,h1,h.cand.2.2⟩,fun j hj hc=>h.top j hj ⟨hc.1,by have:=hc.2.1;omega,hc.2.2⟩⟩
theorem zhF (w:Wear) (lamp night known:Int):zb0 w lamp night known=some (fit w lamp night known):=by
 unfold zb0
 refine Wp.eq (zbj (fun i s=>s=fitN w lamp night known i) rfl (fun i s K hi hI hK=>?_) (fun s hs=>zau hs))
 have hs:=zju w lamp night known i
 rw [← hI] at hs
 refine zan (fun h=>?_) ?_
 · simp only [Bool.and_eq_true,Bool.not_eq_true',decide_eq_false_iff_not] at h
   rcases hs with ⟨e,_⟩|⟨j,e,hj⟩
   · omega
   · have:=hj.lt;omega
 have e:((((decide ((w.Mantles.getD i default).Lamp=lamp)) && (decide ((w.Mantles.getD i default).Night≤night))) && (zap ((w.Mantles.getD i default).Known) ((w.Mantles.getD i default).Until) known)) && ((decide (s<0)) || (decide ((w.Mantles.getD (s).toNat default).Night≤(w.Mantles.getD i default).Night))))=decide (Cand w lamp night known i∧(s<0∨(mt w s.toNat).Night≤(mt w i).Night)):=by
  rw [Bool.eq_iff_iff]
  simp only [Bool.and_eq_true,Bool.or_eq_true,decide_eq_true_eq,Cand,mt,and_assoc]
 rw [e]
 refine zbt (fun h=>hK _ ?_) (fun h=>hK _ ?_)
 · subst hI;unfold fitN;rw [if_pos h]
 · subst hI;conv=>rhs;unfold fitN
   rw [if_neg h]
def zpo:Mantle:=⟨0,0,0,0,0,0⟩
def atR (w:Wear) (lamp night known:Int):Mantle×Bool:=if fit w lamp night known<0 then (zpo,false) else (mt w (fit w lamp night known).toNat,true)
theorem rcounts (a b c:Int):zaE a b c=zap a b c:=rfl
theorem at_eq {w:Wear} {fuel:Nat} (hf:w.Mantles.length<fuel) (hn:w.Mantles.length≤60) (lamp night known:Int):zbV fuel w lamp night known=some (atR w lamp night known):=by
 unfold zbV
 refine Wp.eq ?_
 refine wp_loop (fun s=>∃ i:Nat,s.2.1=(i:Int)∧i≤w.Mantles.length∧s.1 = !decide (fitN w lamp night known i<0)∧s.2.2=if fitN w lamp night known i<0 then zpo else mt w (fitN w lamp night known i).toNat) (fun s=>w.Mantles.length - s.2.1.toNat) (by simp [-List.getD_eq_getElem?_getD];omega) ⟨0,rfl,Nat.zero_le _,rfl,rfl⟩ (fun s K hI hK=>?_)
 obtain ⟨b,x,m⟩:=s
 obtain ⟨i,h1,h2,h3,h4⟩:=hI
 simp only at h1 h2 h3 h4 hK ⊢
 subst h1
 by_cases hin:i<w.Mantles.length
 · refine zcN (by simp [-List.getD_eq_getElem?_getD];omega) (zan (by omega) ?_)
   simp only [Int.toNat_natCast] at hK ⊢
   have e:((((decide ((w.Mantles.getD i default).Lamp=lamp)) && (decide ((w.Mantles.getD i default).Night≤night))) && (zaE ((w.Mantles.getD i default).Known) ((w.Mantles.getD i default).Until) known)) && ((!b) || (decide (m.Night≤(w.Mantles.getD i default).Night))))=decide (Cand w lamp night known i∧(fitN w lamp night known i<0∨(mt w (fitN w lamp night known i).toNat).Night≤(mt w i).Night)):=by
    rw [Bool.eq_iff_iff,h3,h4]
    by_cases hc:fitN w lamp night known i<0
    · simp only [hc,Bool.and_eq_true,Bool.or_eq_true,decide_eq_true_eq,Cand,mt,and_assoc,rcounts];simp [-List.getD_eq_getElem?_getD]
    · simp only [hc,Bool.and_eq_true,Bool.or_eq_true,decide_eq_true_eq,Cand,mt,and_assoc,rcounts];simp [-List.getD_eq_getElem?_getD]
   rw [e]
   refine zbt (fun h=>zag (by omega) (hK _ ⟨i+1,by simp [-List.getD_eq_getElem?_getD],by omega,?_,?_⟩ (by simp only;omega))) (fun h=>zag (by omega) (hK _ ⟨i+1,by simp [-List.getD_eq_getElem?_getD],by omega,?_,?_⟩ (by simp only;omega)))
   · simp only;unfold fitN;rw [if_pos h];simp [-List.getD_eq_getElem?_getD]
   · simp only;unfold fitN;rw [if_pos h,if_neg (by omega)];simp [-List.getD_eq_getElem?_getD,mt]
   · simp only;unfold fitN;rw [if_neg h];exact h3
   · simp only;unfold fitN;rw [if_neg h];exact h4
 · have:i=w.Mantles.length:=by omega
   subst this
   refine zaP (by simp [-List.getD_eq_getElem?_getD]) (zau ?_)
   unfold atR fit
   rw [h3,h4]
   by_cases hc:fitN w lamp night known w.Mantles.length<0
   · simp [-List.getD_eq_getElem?_getD,hc]
   · simp [-List.getD_eq_getElem?_getD,hc]
def tell (w:Wear) (known:Int) (i:Nat):Bool:=decide (0≤fit w (bn w i).Lamp (bn w i).Night known) && zap (bn w i).Known (bn w i).Until known &&
 decide (∀ k,k<w.Burns.length→i<k→¬ ((bn w k).Lamp=(bn w i).Lamp∧(bn w k).Night=(bn w i).Night∧zap (bn w k).Known (bn w k).Until known=true))
def zaL (P:Nat→Bool) (f:Nat→Int):Nat→Int
 | 0=>0
 | n+1=>zaL P f n+(if P n=true then f n else 0)
theorem zeR {P Q:Nat→Bool} {f:Nat→Int}:∀ {n:Nat},(∀ i,i<n→P i=Q i)→zaL P f n=zaL Q f n
 | 0,_=>rfl
 | n+1,h=>by unfold zaL;rw [zeR (fun i hi=>h i (by omega)),h n (by omega)]
theorem zf1 {P Q:Nat→Bool} {f:Nat→Int}:∀ {n:Nat},(∀ i,i<n→0≤f i)→(∀ i,i<n→P i=true→Q i=true)→zaL P f n≤zaL Q f n
 | 0,_,_=>Int.le_refl _
 | n+1,h0,h=>by
  unfold zaL
  have h1:=zf1 (fun i hi=>h0 i (by omega)) (fun i hi=>h i (by omega)) (P:=P) (Q:=Q) (f:=f) (n:=n)
  have h2:=h0 n (by omega)
  by_cases hp:P n=true
  · rw [if_pos hp,if_pos (h n (by omega) hp)];omega
  · rw [if_neg hp];split <;> omega
theorem zea {P:Nat→Bool} {f:Nat→Int} {c:Int} (hc:0≤c):∀ {n:Nat},(∀ i,i<n→0≤f i∧f i≤c)→0≤zaL P f n∧zaL P f n≤(n:Int) * c
 | 0,_=>by simp [-List.getD_eq_getElem?_getD,zaL]
 | n+1,h=>by
  unfold zaL
  have h1:=zea hc (fun i hi=>h i (by omega)) (P:=P) (f:=f) (n:=n)
  have h2:=h n (by omega)
  have:((n+1:Nat):Int) * c=(n:Int) * c+c:=by rw [Int.natCast_add,Int.add_mul];simp [-List.getD_eq_getElem?_getD]
  rw [this]
  split <;> omega
theorem zfu {P:Nat→Bool} {f g:Nat→Int}:∀ {n:Nat},(∀ i,i<n→P i=true→f i≤g i)→zaL P f n≤zaL P g n
 | 0,_=>Int.le_refl _
 | n+1,h=>by
  unfold zaL
  have h1:=zfu (fun i hi=>h i (by omega)) (P:=P) (f:=f) (g:=g) (n:=n)
  by_cases hp:P n=true
  · rw [if_pos hp,if_pos hp];have:=h n (by omega) hp;omega
  · rw [if_neg hp,if_neg hp];omega
theorem zdW {P Q R:Nat→Bool} {f:Nat→Int}:∀ {n:Nat},(∀ i,i<n→R i=(P i || Q i))→(∀ i,i<n→¬ (P i=true∧Q i=true))→zaL R f n=zaL P f n+zaL Q f n
 | 0,_,_=>rfl
 | n+1,h1,h2=>by
  unfold zaL
  rw [zdW (fun i hi=>h1 i (by omega)) (fun i hi=>h2 i (by omega)),h1 n (by omega)]
  have:=h2 n (by omega)
  cases hp:P n <;> cases hq:Q n <;> simp_all [-List.getD_eq_getElem?_getD] <;> omega
def zfl (w:Wear) (known m from_ to:Int) (i:Nat):Bool:=tell w known i && decide (fit w (bn w i).Lamp (bn w i).Night known=m) && (decide (from_<(bn w i).Night) && decide ((bn w i).Night≤to))
def zfY (w:Wear) (known m from_ to:Int):Int:=zaL (zfl w known m from_ to) (fun i=>(bn w i).Minutes.Lo) w.Burns.length
def zdm (w:Wear) (known m from_ to:Int):Int:=zaL (zfl w known m from_ to) (fun i=>(bn w i).Minutes.Hi) w.Burns.length
end Go.Sp
end
/- Plain laws, mantle: which burns tell, ages, by both; the burns of each mantle. No program in sight. -/
section
set_option linter.all false
namespace Go.Sp
open Go.Av
set_option maxRecDepth 100000
theorem zeV {T:Type} [Inhabited T] {p:T→Option Bool} {q:T→Bool} (hp:∀ x,p x=some (q x)) (l:List T) :
 (zam (zaq (fun i1 (s1:Unit) k1=>zam (p (l.getD i1 default)) fun y3=>(bif y3 then some (i1:Int) else k1 ())) (fun (s1:Unit)=>some (-1)) l.length 0 ():Option Int) fun y1=>some (decide (0≤y1)))=some (l.any q):=by
 rw [zgb hp l]
 show some _=some _
 congr 1
 cases h:l.findIdx? q with
 | none=>
  rw [List.findIdx?_eq_none_iff] at h
  have:l.any q=false:=by rw [List.any_eq_false];intro x hx;simp [-List.getD_eq_getElem?_getD,h x hx]
  rw [this];rfl
 | some i=>
  rw [List.findIdx?_eq_some_iff_getElem] at h
  obtain ⟨h1,h2,_⟩:=h
  have:l.any q=true:=List.any_eq_true.2 ⟨_,List.getElem_mem h1,h2⟩
  rw [this];simp [-List.getD_eq_getElem?_getD]
def zj7 (w:Wear) (known:Int) (i k:Nat):Prop:=(bn w k).Lamp=(bn w i).Lamp∧(bn w k).Night=(bn w i).Night∧zap (bn w k).Known (bn w k).Until known=true
theorem zm0 {w:Wear} {known:Int} {i:Nat}:tell w known i=true↔0≤fit w (bn w i).Lamp (bn w i).Night known∧zap (bn w i).Known (bn w i).Until known=true∧∀ k,k<w.Burns.length→i<k→¬ zj7 w known i k:=by
 simp only [tell,Bool.and_eq_true,decide_eq_true_eq,and_assoc,zj7]
theorem zqr {w:Wear} {known:Int} {i:Nat}:(w.Burns.drop (i+1)).any (fun x0=>zbi x0 (bn w i) known)=true↔∃ k,k<w.Burns.length∧i<k∧zj7 w known i k:=by
 rw [List.any_eq_true]
 constructor
 · rintro ⟨x,hx,h⟩
   obtain ⟨j,hj,rfl⟩:=zds hx
   rw [List.length_drop] at hj
   rw [getD_drop] at h
   refine ⟨i+1+j,by omega,by omega,?_⟩
   simp only [zbi,Bool.and_eq_true,decide_eq_true_eq,and_assoc] at h
   exact h
 · rintro ⟨k,hk,hik,h⟩
   refine ⟨bn w k,?_,by simp only [zbi,Bool.and_eq_true,decide_eq_true_eq,and_assoc];exact h⟩
   have:(w.Burns.drop (i+1)).getD (k - (i+1)) default=bn w k:=by rw [getD_drop];unfold bn;congr 1;omega
   rw [← this]
   exact zbq (by rw [List.length_drop];omega)
theorem znJ {w:Wear} (V:WearOk w) {fuel:Nat} (hf:100<fuel) (known:Int):zbM fuel w known=some ((List.range w.Burns.length).map (tell w known)):=by
 have nu:=V.nu;have nm:=V.nm
 unfold zbM
 refine Wp.eq ?_
 refine ziZ w.Burns.length (by omega) (fun i (s:List Bool)=>s=(List.range i).map (tell w known)) rfl (fun i s K hi hI hK=>?_)
 subst hI
 by_cases hin:i<w.Burns.length
 · refine zcN (by simp [-List.getD_eq_getElem?_getD];omega) (zan (by simp only;omega) ?_)
   simp only [Int.toNat_natCast]
   refine zax (at_eq (by omega) nm _ _ known) (zag (by omega) ?_)
   refine wp_loop (fun s=>∃ k:Nat,s.1=(k:Int)∧i+1≤k∧k≤w.Burns.length∧(s.2=true↔0≤fit w (bn w i).Lamp (bn w i).Night known∧zap (bn w i).Known (bn w i).Until known=true∧∀ j,j<k→i<j→¬ zj7 w known i j)) (fun s=>w.Burns.length - s.1.toNat) (by simp only;omega)
    ⟨i+1,by simp [-List.getD_eq_getElem?_getD],Nat.le_refl _,hin,?_⟩ (fun s K2 hI2 hK2=>?_)
   · show (_ && _)=true↔_
     have e:(atR w (w.Burns.getD i default).Lamp (w.Burns.getD i default).Night known).2=decide (0≤fit w (bn w i).Lamp (bn w i).Night known):=by
      unfold atR bn
      by_cases h:fit w (w.Burns.getD i default).Lamp (w.Burns.getD i default).Night known<0
      · rw [if_pos h];simp [-List.getD_eq_getElem?_getD];omega
      · rw [if_neg h];simp [-List.getD_eq_getElem?_getD];omega
     rw [e,Bool.and_eq_true,decide_eq_true_eq]
     exact ⟨fun h=>⟨h.1,h.2,fun j hj hij=>by omega⟩,fun h=>⟨h.1,h.2.1⟩⟩
   obtain ⟨x,b⟩:=s
   obtain ⟨k,h1,h2,h3,h4⟩:=hI2
   simp only at h1 h4 hK2 ⊢
   subst h1
   by_cases hk:k<w.Burns.length
   · refine zcN (by simp [-List.getD_eq_getElem?_getD];omega) (zan (by omega) (zag (by omega) (hK2 _ ⟨k+1,by simp [-List.getD_eq_getElem?_getD],by omega,by omega,?_⟩ (by simp only;omega))))
     simp only [Int.toNat_natCast,Bool.and_eq_true,h4]
     have e:(((!decide ((w.Burns.getD k default).Lamp=(w.Burns.getD i default).Lamp)) || (!decide ((w.Burns.getD k default).Night=(w.Burns.getD i default).Night))) || (!(zaE ((w.Burns.getD k default).Known) ((w.Burns.getD k default).Until) known)))=true↔¬ zj7 w known i k:=by
      simp only [Bool.or_eq_true,Bool.not_eq_true',decide_eq_false_iff_not,zj7,bn,rcounts]
      constructor
      · rintro ((h|h)|h) ⟨h1,h2,h3⟩
        · exact h h1
        · exact h h2
        · rw [h] at h3;cases h3
      · intro h
        by_cases h1:(w.Burns.getD k default).Lamp=(w.Burns.getD i default).Lamp
        · by_cases h2:(w.Burns.getD k default).Night=(w.Burns.getD i default).Night
          · refine .inr ?_
            cases h3:zap (w.Burns.getD k default).Known (w.Burns.getD k default).Until known with
            | false=>rfl
            | true=>exact absurd ⟨h1,h2,h3⟩ h
          · exact .inl (.inr h2)
        · exact .inl (.inl h1)
     rw [e]
     constructor
     · rintro ⟨⟨a1,a2,a3⟩,a4⟩
       refine ⟨a1,a2,fun j hj hij=>?_⟩
       by_cases e:j=k
       · rw [e];exact a4
       · exact a3 j (by omega) hij
     · rintro ⟨a1,a2,a3⟩
       exact ⟨⟨a1,a2,fun j hj hij=>a3 j (by omega) hij⟩,a3 k (by omega) (by omega)⟩
   · have:k=w.Burns.length:=by omega
     subst this
     refine zaP (by simp [-List.getD_eq_getElem?_getD]) (za5 (by simp [-List.getD_eq_getElem?_getD];omega) (zag (by omega) (hK _ hin ?_)))
     rw [List.range_succ,List.map_append]
     congr 1
     simp only [List.map_cons,List.map_nil]
     congr 1
     rw [Bool.eq_iff_iff,h4,zm0]
 · have:i=w.Burns.length:=by omega
   subst this
   exact zaP (by simp [-List.getD_eq_getElem?_getD]) (zau rfl)
theorem zlh {w:Wear} (V:WearOk w) {i:Nat} (hi:i<w.Burns.length):BurnOk (bn w i):=(V.bu i hi).1
theorem sum60 {w:Wear} (V:WearOk w) (P:Nat→Bool) {n:Nat} (hn:n≤w.Burns.length):(0≤zaL P (fun i=>(bn w i).Minutes.Lo) n∧zaL P (fun i=>(bn w i).Minutes.Lo) n≤86400)∧(0≤zaL P (fun i=>(bn w i).Minutes.Hi) n∧zaL P (fun i=>(bn w i).Minutes.Hi) n≤86400):=by
 have nu:=V.nu
 have h1:=zea (P:=P) (f:=fun i=>(bn w i).Minutes.Lo) (c:=1440) (by decide) (n:=n) (fun i hi=>by have:=(zlh V (i:=i) (by omega)).min;omega)
 have h2:=zea (P:=P) (f:=fun i=>(bn w i).Minutes.Hi) (c:=1440) (by decide) (n:=n) (fun i hi=>by have:=(zlh V (i:=i) (by omega)).min;omega)
 have:(n:Int) * 1440≤86400:=by omega
 omega
def zo0 (w:Wear) (known:Int) (m:Mantle) (night:Int) (i:Nat):Bool:=tell w known i && decide ((bn w i).Lamp=m.Lamp) && zaB (bn w i).Night m.Night night
theorem zqa {w:Wear} (V:WearOk w) {known lamp night:Int} {m:Nat} (h:FitIs w lamp night known w.Mantles.length m) {i:Nat} (hi:i<w.Burns.length):zo0 w known (mt w m) night i=zfl w known (m:Int) (-1) night i:=by
 rw [Bool.eq_iff_iff]
 unfold zo0 zfl zaB
 simp only [Bool.and_eq_true,decide_eq_true_eq]
 have hb:=(zlh V hi).told.night
 constructor
 · rintro ⟨⟨h1,h2⟩,h3,h4⟩
   refine ⟨⟨h1,?_⟩,by omega,h4⟩
   rw [h2,h.cand.1]
   exact (h.earlier h3 h4).fit
 · rintro ⟨⟨h1,h2⟩,h3,h4⟩
   have h5:=zny h2
   exact ⟨⟨h1,h5.cand.1.symm⟩,h5.cand.2.1,h4⟩
def zin (w:Wear) (known m:Int) (n:Nat):List Int:=((List.range n).filter (fun i=>tell w known i && decide (fit w (bn w i).Lamp (bn w i).Night known=m))).map (fun i:Nat=>(i:Int))
theorem zkf {w:Wear} {known m:Int} {n:Nat}:zin w known m (n+1)=if tell w known n=true∧fit w (bn w n).Lamp (bn w n).Night known=m then zin w known m n++[(n:Int)] else zin w known m n:=by
 unfold zin
 rw [List.range_succ,List.filter_append,List.map_append]
 by_cases h:tell w known n=true∧fit w (bn w n).Lamp (bn w n).Night known=m
 · rw [if_pos h]
   simp [-List.getD_eq_getElem?_getD,h]
 · rw [if_neg h]
   have:(tell w known n && decide (fit w (bn w n).Lamp (bn w n).Night known=m))=false:=by
    rw [Bool.and_eq_false_iff,decide_eq_false_iff_not]
    by_cases h1:tell w known n=true
    · exact .inr (fun h2=>h ⟨h1,h2⟩)
    · exact .inl (by simpa [-List.getD_eq_getElem?_getD] using h1)
   simp [-List.getD_eq_getElem?_getD,this]
theorem zhS {w:Wear} {known m:Int} {n:Nat} {x:Int} (h:x∈zin w known m n):0≤x∧x<(n:Int):=by
 unfold zin at h
 rw [List.mem_map] at h
 obtain ⟨i,hi,rfl⟩:=h
 have:=List.mem_range.1 (List.mem_filter.1 hi).1
 omega
theorem zjH (w:Wear) (known m:Int) (n:Nat):(zin w known m n).length≤n:=by
 unfold zin
 rw [List.length_map]
 exact Nat.le_trans (List.length_filter_le _ _) (by simp [-List.getD_eq_getElem?_getD])
theorem Mp.ziS {T:Type}:(Mp.empty:Mp T).ok:=⟨List.nodup_nil,rfl,fun k hk=>by cases hk⟩
theorem Mp.zne {T:Type} {m:Mp T} (h:m.ok) (hd:∀ k,(m.get k).isSome=true→k∈m.keys) (q:Int) (x:T):(m.set q x).ok∧∀ k,((m.set q x).get k).isSome=true→k∈(m.set q x).keys:=by
 obtain ⟨h1,h2,h3⟩:=h
 unfold Mp.set Mp.ok
 by_cases hq:(m.get q).isSome=true
 · simp only [hq,if_true]
   refine ⟨⟨h1,h2,fun k hk=>?_⟩,fun k hk=>?_⟩
   · by_cases e:k=q
     · rw [if_pos e];rfl
     · rw [if_neg e];exact h3 k hk
   · by_cases e:k=q
     · rw [e];exact hd q hq
     · rw [if_neg e] at hk;exact hd k hk
 · simp only [hq]
   have hnq:q ∉ m.keys:=fun h=>hq (h3 q h)
   refine ⟨⟨?_,by simp [-List.getD_eq_getElem?_getD,h2],fun k hk=>?_⟩,fun k hk=>?_⟩
   · show (m.keys++[q]).Nodup
     rw [List.nodup_append]
     exact ⟨h1,by simp [-List.getD_eq_getElem?_getD],fun a ha b hb=>by
      rw [List.mem_singleton] at hb
      subst hb
      exact fun e=>hnq (e▸ha)⟩
   · by_cases e:k=q
     · rw [if_pos e];rfl
     · rw [if_neg e]
       have:k∈m.keys++[q]:=hk
       rw [List.mem_append,List.mem_singleton] at this
       exact h3 k (this.resolve_right e)
   · show k∈m.keys++[q]
     rw [List.mem_append,List.mem_singleton]
     by_cases e:k=q
     · exact .inr e
     · rw [if_neg e] at hk;exact .inl (hd k hk)
theorem zqt {w:Wear} (V:WearOk w) {fuel:Nat} (hf:1000≤fuel) (known:Int):Wp (zeh fuel w known) (fun mp=>∀ m,((mp.get m).getD default).Perm (zin w known m w.Burns.length)):=by
 have nu:=V.nu
 unfold zeh
 refine zbj (fun i s=>(s.ok∧∀ k,(s.get k).isSome=true→k∈s.keys)∧∀ m,(s.get m).getD []=zin w known m i) ⟨⟨Mp.ziS,fun k hk=>by cases hk⟩,fun m=>rfl⟩ (fun i s K hi hI hK=>?_) (fun s hs=>?_)
 · obtain ⟨⟨h1,h2⟩,h3⟩:=hI
   refine zax (zhF w _ _ known) (zan (fun _=>by omega) ?_)
   refine zjM (Q:=fun y=>y=(w.Burns.drop (i+1)).any (fun x0=>zbi x0 (bn w i) known)) (fun _=>?_) (fun y6 h6=>?_)
   · have e:(((i:Int)+1)).toNat=i+1:=by omega
     rw [e]
     exact ⟨_,zeV (q:=fun x0=>zbi x0 (bn w i) known) (fun x=>rfl) _,rfl⟩
   have e:(((decide (0≤fit w (w.Burns.getD i default).Lamp (w.Burns.getD i default).Night known)) && (zap ((w.Burns.getD i default).Known) ((w.Burns.getD i default).Until) known)) && (!y6))=tell w known i:=by
    rw [Bool.eq_iff_iff,zm0]
    simp only [Bool.and_eq_true,Bool.not_eq_true',decide_eq_true_eq,and_assoc,bn]
    refine and_congr_right (fun a1=>and_congr_right (fun a2=>?_))
    have h7:=h6 (by simp only [Bool.and_eq_true,decide_eq_true_eq];exact ⟨a1,a2⟩)
    rw [h7,← Bool.not_eq_true,zqr]
    exact ⟨fun h k hk hik hl=>h ⟨k,hk,hik,hl⟩,fun h ⟨k,hk,hik,hl⟩=>h k hk hik hl⟩
   rw [e]
   have hlen:=zjH w known (fit w (w.Burns.getD i default).Lamp (w.Burns.getD i default).Night known) i
   refine zcn (fun ht=>za5 (by rw [h3];simp [-List.getD_eq_getElem?_getD];omega) (hK _ ⟨Mp.zne h1 h2 _ _,fun m=>?_⟩)) (fun ht=>hK _ ⟨⟨h1,h2⟩,fun m=>?_⟩)
   · rw [h3]
     show (if m=_ then some _ else s.get m).getD []=_
     rw [zkf]
     by_cases e1:m=fit w (bn w i).Lamp (bn w i).Night known
     · have e2:tell w known i=true∧fit w (bn w i).Lamp (bn w i).Night known=m:=⟨ht,e1.symm⟩
       rw [if_pos e2,e1]
       exact congrArg (fun z=>Option.getD z []) (if_pos rfl)
     · have e2:¬ (tell w known i=true∧fit w (bn w i).Lamp (bn w i).Night known=m):=fun h=>e1 h.2.symm
       rw [if_neg e2,← h3 m]
       exact congrArg (fun z=>Option.getD z []) (if_neg e1)
   · rw [zkf,if_neg (fun h=>by rw [ht] at h;cases h.1),h3]
 · obtain ⟨⟨h1,h2⟩,h3⟩:=hs
   refine zan h1 ?_
   have hsort:∀ m,Wp (zaD fuel ((s.get m).getD []) (fun x0 x1=>zbI x0 x1 w)) (fun r=>r.Perm ((s.get m).getD [])):=fun m=>by
    have hl:=zjH w known m w.Burns.length
    refine zkB hf (by rw [h3];omega) (fun a ha b hb=>?_)
    rw [h3] at ha hb
    have a1:=zhS ha
    have b1:=zhS hb
    unfold zbI
    rw [zd5 a1,zd5 b1]
    exact ⟨_,rfl⟩
   have hrow:∀ m,Wp (zam (zaD fuel ((s.get m).getD []) (fun x0 x1=>zbI x0 x1 w)) fun y13=>must (y13.length=((s.get m).getD []).length) (some y13)) (fun r=>r.Perm ((s.get m).getD [])):=fun m=>wp_bind (hsort m) (fun y hy=>zan hy.length_eq (zau hy))
   refine wp_bind (Q:=fun y=>∀ m,((y.get m).getD default).Perm (zin w known m w.Burns.length)) ?_ (fun y hy=>zau hy)
   unfold Mp.znm
   have hall:s.keys.all (fun k=>((fun (l11:List Int)=>zam (zaD fuel l11 (fun x0 x1=>zbI x0 x1 w)) fun y13=>must (y13.length=l11.length) (some y13)) ((s.get k).getD default)).isSome)=true:=by
    rw [List.all_eq_true]
    intro k _
    obtain ⟨r,e,_⟩:=hrow k
    show (zam (zaD fuel ((s.get k).getD []) (fun x0 x1=>zbI x0 x1 w)) fun y13=>must (y13.length=((s.get k).getD []).length) (some y13)).isSome=true
    rw [e];rfl
   rw [hall]
   refine zau (fun m=>?_)
   rw [← h3]
   obtain ⟨r,e,hr⟩:=hrow m
   cases hm:s.get m with
   | none=>simp only [hm];exact .refl _
   | some l=>
    rw [hm] at e hr
    simp only [Option.getD_some,hm] at e hr ⊢
    rw [e];exact hr
end Go.Sp
end
/- Plain laws, mantle: the closet: which lives each batch may have. No program in sight. -/
section
set_option linter.all false
namespace Go.Sp
open Go.Av
set_option maxRecDepth 100000
def lsum (g:Int→Int):List Int→Int
 | []=>0
 | x::l=>g x+lsum g l
theorem zoQ {g:Int→Int} {l r:List Int} (h:l.Perm r):lsum g l=lsum g r:=by
 induction h with
 | nil=>rfl
 | cons x _ ih=>unfold lsum;rw [ih]
 | swap x y l=>unfold lsum;unfold lsum;omega
 | trans _ _ h1 h2=>rw [h1,h2]
theorem zf9 {g:Int→Int} (l:List Int) (x:Int):lsum g (l++[x])=lsum g l+g x:=by
 induction l with
 | nil=>simp [-List.getD_eq_getElem?_getD,lsum]
 | cons y l ih=>rw [List.cons_append];unfold lsum;rw [ih];omega
theorem zj6 {g:Int→Int} {c:Int} (hc:0≤c):∀ {l:List Int},(∀ x∈l,0≤g x∧g x≤c)→0≤lsum g l∧lsum g l≤(l.length:Int) * c
 | [],_=>by simp [-List.getD_eq_getElem?_getD,lsum]
 | x::l,h=>by
  unfold lsum
  have h1:=zj6 hc (fun y hy=>h y (List.mem_cons_of_mem _ hy)) (g:=g) (l:=l)
  have h2:=h x (List.mem_cons_self ..)
  have:((x::l).length:Int) * c=(l.length:Int) * c+c:=by rw [List.length_cons,Int.natCast_add,Int.add_mul];simp [-List.getD_eq_getElem?_getD]
  rw [this];omega
theorem zj5 {P:Nat→Bool} {g:Int→Int}:∀ {n:Nat},lsum g (((List.range n).filter P).map (fun i:Nat=>(i:Int)))=zaL P (fun i=>g i) n
 | 0=>rfl
 | n+1=>by
  rw [List.range_succ,List.filter_append,List.map_append]
  unfold zaL
  rw [← zj5]
  by_cases h:P n=true
  · rw [if_pos h]
    have:(List.filter P [n]).map (fun i:Nat=>(i:Int))=[(n:Int)]:=by simp [-List.getD_eq_getElem?_getD,h]
    rw [this,zf9]
  · rw [if_neg h]
    have:(List.filter P [n]).map (fun i:Nat=>(i:Int))=[]:=by simp [-List.getD_eq_getElem?_getD,h]
    rw [this,List.append_nil,Int.add_zero]
theorem zjZ {P Q:Nat→Bool} {f:Nat→Int}:∀ {n:Nat},zaL P (fun i=>if Q i=true then f i else 0) n=zaL (fun i=>P i && Q i) f n
 | 0=>rfl
 | n+1=>by
  unfold zaL
  rw [zjZ]
  cases hp:P n <;> cases hq:Q n <;> simp [-List.getD_eq_getElem?_getD]
structure CoatOk (w:Wear) (known:Int) (m:Nat) (S:List mantle_sight) (c:mantle_coat):Prop where
 wear:c.w=w
 burns:c.burns.Perm (zin w known m w.Burns.length)
 sights:c.sights=S
theorem zb3 {T:Type} [Inhabited T] {l:List T} {i:Nat} (h:i<l.length):l.take (i+1)=l.take i++[l.getD i default]:=by
 rw [List.take_add_one,List.getElem?_eq_getElem h,List.getD_eq_getElem?_getD,List.getElem?_eq_getElem h];rfl
theorem zmW {w:Wear} (V:WearOk w) {known:Int} {m:Nat} {S:List mantle_sight} {c:mantle_coat} (hc:CoatOk w known m S c) (f t:Int):zbd c f t=some ⟨zfY w known m f t,zdm w known m f t⟩:=by
 have nu:=V.nu
 unfold zbd
 rw [hc.wear]
 have hlen:c.burns.length≤60:=by have:=hc.burns.length_eq;have:=zjH w known m w.Burns.length;omega
 have hin:∀ i,i<c.burns.length→0≤c.burns.getD i default∧c.burns.getD i default<(w.Burns.length:Int):=fun i hi=>zhS (hc.burns.mem_iff.1 (zbq hi))
 let g:(Burn→Int)→Int→Int:=fun F x=>if f<(bn w x.toNat).Night∧(bn w x.toNat).Night≤t then F (bn w x.toNat) else 0
 have hL:∀ F,(∀ b,BurnOk b→0≤F b∧F b≤1440)→∀ i,0≤lsum (g F) (c.burns.take i)∧lsum (g F) (c.burns.take i)≤86400:=fun F hF i=>by
  have:=zj6 (g:=g F) (c:=1440) (by decide) (l:=c.burns.take i) (fun x hx=>by
   have hx':=zhS (hc.burns.mem_iff.1 (List.mem_of_mem_take hx))
   have:=hF _ (zlh V (i:=x.toNat) (by omega))
   simp only [g]
   split <;> omega)
  have h2:(c.burns.take i).length≤60:=by rw [List.length_take];omega
  omega
 have hlo:∀ b,BurnOk b→0≤b.Minutes.Lo∧b.Minutes.Lo≤1440:=fun b hb=>by have:=hb.min;omega
 have hhi:∀ b,BurnOk b→0≤b.Minutes.Hi∧b.Minutes.Hi≤1440:=fun b hb=>by have:=hb.min;omega
 refine Wp.eq (zbj (fun i s=>s=⟨lsum (g (·.Minutes.Lo)) (c.burns.take i),lsum (g (·.Minutes.Hi)) (c.burns.take i)⟩) rfl (fun i s K hi hI hK=>?_) (fun s hs=>zau ?_))
 · subst hI
   have a:=hin i hi
   have b1:=hL _ hlo i
   have b2:=hL _ hhi i
   have hb:=(zlh V (i:=(c.burns.getD i default).toNat) (by omega)).min
   refine zan a ?_
   have e:((decide (f<(w.Burns.getD ((c.burns.getD i default)).toNat default).Night)) && (decide ((w.Burns.getD ((c.burns.getD i default)).toNat default).Night≤t)))=decide (f<(bn w (c.burns.getD i default).toNat).Night∧(bn w (c.burns.getD i default).toNat).Night≤t):=by
    rw [Bool.decide_and];rfl
   rw [e]
   unfold bn at hb
   refine zbt (fun h=>zag (by simp only;omega) (zag (by simp only;omega) (hK _ ?_))) (fun h=>hK _ ?_)
   · rw [zb3 hi,zf9,zf9]
     simp only [g]
     rw [if_pos h,if_pos h];rfl
   · rw [zb3 hi,zf9,zf9]
     simp only [g]
     rw [if_neg h,if_neg h,Int.add_zero,Int.add_zero]
 · rw [hs,List.take_length]
   have key:∀ F:Burn→Int,lsum (g F) c.burns=zaL (zfl w known m f t) (fun i=>F (bn w i)) w.Burns.length:=fun F=>by
    rw [zoQ hc.burns]
    unfold zin
    rw [zj5]
    have:(fun i:Nat=>g F (i:Int))=fun i:Nat=>if (decide (f<(bn w i).Night) && decide ((bn w i).Night≤t))=true then F (bn w i) else 0:=by
     funext i
     simp only [g,Int.toNat_natCast,Bool.and_eq_true,decide_eq_true_eq]
    rw [this,zjZ]
    rfl
   have k1:=key (fun b=>b.Minutes.Lo)
   have k2:=key (fun b=>b.Minutes.Hi)
   show Range.mk _ _=Range.mk _ _
   rw [k1,k2];rfl
structure Ends (S:List mantle_sight) (g b:Int):Prop where
 top:∀ x∈S,x.bad=false→x.night≤g
 good:g = -1∨∃ x∈S,x.bad=false∧x.night=g
 low:∀ x∈S,x.bad=true→b ≠ -1∧b≤x.night
 bad:b = -1∨∃ x∈S,x.bad=true∧x.night=b
 g0 : -1≤g
 b0 : -1≤b
theorem Ends.uniq {S:List mantle_sight} {g b g' b':Int} (h:Ends S g b) (h':Ends S g' b'):g=g'∧b=b':=by
 constructor
 · rcases h.good with e|⟨x,hx,h1,h2⟩ <;> rcases h'.good with e'|⟨y,hy,h3,h4⟩
   · omega
   · have:=h.top y hy h3;have:=h'.g0;have:=h.g0;omega
   · have:=h'.top x hx h1;have:=h'.g0;have:=h.g0;omega
   · have:=h.top y hy h3;have:=h'.top x hx h1;omega
 · rcases h.bad with e|⟨x,hx,h1,h2⟩ <;> rcases h'.bad with e'|⟨y,hy,h3,h4⟩
   · omega
   · exact absurd e (h.low y hy h3).1
   · exact absurd e' (h'.low x hx h1).1
   · have:=(h.low y hy h3).2;have:=(h'.low x hx h1).2;omega
theorem zpm (c:mantle_coat) (hn:∀ x∈c.sights,0≤x.night):Wp (zcs c) (fun r=>Ends c.sights r.1 r.2):=by
 unfold zcs
 refine zbj (fun i s=>Ends (c.sights.take i) s.1 s.2) ⟨fun x hx=>by simp [-List.getD_eq_getElem?_getD] at hx,.inl rfl,fun x hx=>by simp [-List.getD_eq_getElem?_getD] at hx,.inl rfl,by decide,by decide⟩ (fun i s K hi hI hK=>?_) (fun s hs=>zau (by rw [List.take_length] at hs;exact hs))
 obtain ⟨g,b⟩:=s
 obtain ⟨h1,h2,h3,h4,h5,h6⟩:=hI
 simp only at h1 h2 h3 h4 h5 h6 ⊢
 have e:c.sights.getD i default=c.sights.getD i default:=rfl
 have hm:=zbq hi
 have h0:=hn _ hm
 generalize hx:c.sights.getD i default=x at hm h0 ⊢
 have hmem:∀ y,y∈c.sights.take (i+1)↔y∈c.sights.take i∨y=x:=fun y=>by rw [zb3 hi,hx];simp [-List.getD_eq_getElem?_getD]
 refine zcn (fun hb=>hK _ ?_) (fun hb=>?_)
 · have hb':x.bad=false:=by simpa [-List.getD_eq_getElem?_getD] using hb
   refine ⟨fun y hy hyb=>?_,?_,fun y hy hyb=>?_,?_,?_,h6⟩
   · rcases (hmem y).1 hy with hy|rfl
     · have:=h1 y hy hyb;simp only;omega
     · simp only;omega
   · simp only
     rcases Int.le_total g x.night with hle|hle
     · exact .inr ⟨x,(hmem x).2 (.inr rfl),hb',by omega⟩
     · rcases h2 with e|⟨y,hy,y1,y2⟩
       · exact .inr ⟨x,(hmem x).2 (.inr rfl),hb',by omega⟩
       · exact .inr ⟨y,(hmem y).2 (.inl hy),y1,by omega⟩
   · rcases (hmem y).1 hy with hy|rfl
     · exact h3 y hy hyb
     · rw [hb'] at hyb;cases hyb
   · rcases h4 with e|⟨y,hy,y1,y2⟩
     · exact .inl e
     · exact .inr ⟨y,(hmem y).2 (.inl hy),y1,y2⟩
   · simp only;omega
 · have hb':x.bad=true:=by simpa [-List.getD_eq_getElem?_getD] using hb
   refine zcn (fun hc=>hK _ ?_) (fun hc=>hK _ ?_)
   · simp only [Bool.or_eq_true,decide_eq_true_eq] at hc
     refine ⟨fun y hy hyb=>?_,?_,fun y hy hyb=>?_,.inr ⟨x,(hmem x).2 (.inr rfl),hb',rfl⟩,h5,by simp only;omega⟩
     · rcases (hmem y).1 hy with hy|rfl
       · exact h1 y hy hyb
       · rw [hb'] at hyb;cases hyb
     · rcases h2 with e|⟨y,hy,y1,y2⟩
       · exact .inl e
       · exact .inr ⟨y,(hmem y).2 (.inl hy),y1,y2⟩
     · simp only
       rcases (hmem y).1 hy with hy|rfl
       · have:=h3 y hy hyb;omega
       · omega
   · simp only [Bool.or_eq_false_iff,decide_eq_false_iff_not] at hc
     refine ⟨fun y hy hyb=>?_,?_,fun y hy hyb=>?_,?_,h5,h6⟩
     · rcases (hmem y).1 hy with hy|rfl
       · exact h1 y hy hyb
       · rw [hb'] at hyb;cases hyb
     · rcases h2 with e|⟨y,hy,y1,y2⟩
       · exact .inl e
       · exact .inr ⟨y,(hmem y).2 (.inl hy),y1,y2⟩
     · rcases (hmem y).1 hy with hy|rfl
       · exact h3 y hy hyb
       · simp only;omega
     · rcases h4 with e|⟨y,hy,y1,y2⟩
       · exact .inl e
       · exact .inr ⟨y,(hmem y).2 (.inl hy),y1,y2⟩
theorem zkm {w:Wear} (V:WearOk w) {known m f t t':Int} (h:t≤t'):zfY w known m f t≤zfY w known m f t':=by
 refine zf1 (fun i hi=>by have:=(zlh V hi).min;omega) (fun i hi hp=>?_)
 simp only [zfl,Bool.and_eq_true,decide_eq_true_eq] at hp ⊢
 exact ⟨hp.1,hp.2.1,by omega⟩
theorem zdI {w:Wear} (V:WearOk w) {known m f f' t t':Int} (h:t≤t') (hf:f'≤f):zdm w known m f t≤zdm w known m f' t':=by
 refine zf1 (fun i hi=>by have:=(zlh V hi).min;omega) (fun i hi hp=>?_)
 simp only [zfl,Bool.and_eq_true,decide_eq_true_eq] at hp ⊢
 exact ⟨hp.1,by omega,by omega⟩
theorem zjI {w:Wear} (V:WearOk w) (known m f t:Int):(0≤zfY w known m f t∧zfY w known m f t≤86400)∧(0≤zdm w known m f t∧zdm w known m f t≤86400):=sum60 V _ (Nat.le_refl _)
theorem znH {w:Wear} (V:WearOk w) (known m f t:Int):zfY w known m f t≤zdm w known m f t:=zfu (fun i hi _=>by have:=(zlh V hi).min;omega)
theorem zjJ {w:Wear} {known m:Int} {a b c:Int} (h1:a≤b) (h2:b≤c):zdm w known m a c=zdm w known m a b+zdm w known m b c:=by
 refine zdW (fun i hi=>?_) (fun i hi h=>?_)
 · rw [Bool.eq_iff_iff]
   simp only [zfl,Bool.or_eq_true,Bool.and_eq_true,decide_eq_true_eq]
   constructor
   · rintro ⟨h3,h4,h5⟩
     rcases Int.lt_or_le b (bn w i).Night with h|h
     · exact .inr ⟨h3,h,h5⟩
     · exact .inl ⟨h3,h4,h⟩
   · rintro (⟨h3,h4,h5⟩|⟨h3,h4,h5⟩)
     · exact ⟨h3,h4,by omega⟩
     · exact ⟨h3,by omega,h5⟩
 · simp only [zfl,Bool.and_eq_true,decide_eq_true_eq] at h
   omega
structure OkBy (w:Wear) (known m:Int) (S:List mantle_sight) (x:Int):Prop where
 range:0≤x∧x≤1000000
 good:∀ s∈S,s.bad=false→zfY w known m (-1) s.night≤x
 bad:∀ s∈S,s.bad=true→x<zdm w known m (-1) s.night
 two:∀ s∈S,∀ t∈S,s.bad=false→t.bad=true→s.night<t.night∧0<zdm w known m s.night t.night
def zjp (w:Wear) (known m g b:Int):Range:=
 if g ≠ -1∧b ≠ -1∧(b≤g∨zdm w known m g b=0) then ⟨1,0⟩ else ⟨if g ≠ -1 then zfY w known m (-1) g else 0,if b ≠ -1 then min 1000000 (zdm w known m (-1) b - 1) else 1000000⟩
def inR (r:Range) (x:Int):Prop:=r.Lo≤x∧x≤r.Hi
theorem zkK {w:Wear} (V:WearOk w) {known:Int} {m:Nat} {S:List mantle_sight} {c:mantle_coat} (hc:CoatOk w known m S c) (hn:∀ x∈S,0≤x.night) {g b:Int} (he:Ends S g b):zbo c=some (zjp w known m g b):=by
 unfold zbo
 obtain ⟨r,e,hr⟩:=zpm c (by rw [hc.sights];exact hn)
 rw [hc.sights] at hr
 obtain ⟨e1,e2⟩:=hr.uniq he
 have er:r=(g,b):=Prod.ext e1 e2
 subst er
 refine Wp.eq (zax e ?_)
 have hb:=zjI V known m
 unfold zjp
 refine zfr (fun s=>s=if g ≠ -1 then zfY w known m (-1) g else 0) (fun K hK=>?_) (fun s hs=>?_)
 · refine zho (fun h=>zax (zmW V hc _ _) (hK _ ?_)) (fun h=>hK _ ?_)
   · rw [if_pos h]
   · rw [if_neg (by omega)]
 subst hs
 refine zfr (fun s=>s=if b ≠ -1 then min 1000000 (zdm w known m (-1) b - 1) else 1000000) (fun K hK=>?_) (fun s hs=>?_)
 · refine zho (fun h=>zax (zmW V hc _ _) (zag (by have:=hb (-1) b;simp only;omega) (hK _ ?_))) (fun h=>hK _ ?_)
   · rw [if_pos h]
   · rw [if_neg (by omega)]
 subst hs
 refine zjM (Q:=fun y=>y=⟨zfY w known m g b,zdm w known m g b⟩) (fun _=>⟨_,zmW V hc _ _,rfl⟩) (fun y hy=>?_)
 simp only [Bool.and_eq_true,Bool.not_eq_true',decide_eq_false_iff_not] at hy
 refine zcn (fun h=>zau ?_) (fun h=>zau ?_)
 · simp only [Bool.and_eq_true,Bool.or_eq_true,Bool.not_eq_true',decide_eq_false_iff_not,decide_eq_true_eq] at h
   obtain ⟨⟨h1,h2⟩,h3⟩:=h
   have:b≤g∨zdm w known m g b=0:=by
    rcases h3 with h3|h3
    · exact .inl h3
    · by_cases h4:b≤g
      · exact .inl h4
      · rw [hy ⟨⟨h1,h2⟩,h4⟩] at h3;exact .inr h3
   rw [if_pos ⟨h1,h2,this⟩]
 · have:¬ (g ≠ -1∧b ≠ -1∧(b≤g∨zdm w known m g b=0)):=by
    rintro ⟨h1,h2,h3⟩
    have h5:(((!decide (g=(-1))) && (!decide (b=(-1)))) && ((decide (b≤g)) || (decide (y.Hi=0))))=true:=by
     simp only [Bool.and_eq_true,Bool.or_eq_true,Bool.not_eq_true',decide_eq_false_iff_not,decide_eq_true_eq]
     refine ⟨⟨h1,h2⟩,?_⟩
     by_cases h4:b≤g
     · exact .inl h4
     · rw [hy ⟨⟨h1,h2⟩,h4⟩];exact .inr (h3.resolve_left h4)
    rw [h5] at h;cases h
   rw [if_neg this]
theorem zjo {w:Wear} (V:WearOk w) {known m:Int} {S:List mantle_sight} (hn:∀ x∈S,0≤x.night) {g b:Int} (he:Ends S g b) (x:Int):inR (zjp w known m g b) x↔OkBy w known m S x:=by
 have hb:=zjI V known m
 unfold zjp
 by_cases hc:g ≠ -1∧b ≠ -1∧(b≤g∨zdm w known m g b=0)
 · rw [if_pos hc]
   obtain ⟨c1,c2,c3⟩:=hc
   refine ⟨fun h=>by have:=h.1;have:=h.2;simp only at *;omega,fun h=>?_⟩
   obtain ⟨s,hs,s1,s2⟩:=he.good.resolve_left c1
   obtain ⟨t,ht,t1,t2⟩:=he.bad.resolve_left c2
   have:=h.two s hs t ht s1 t1
   rw [s2,t2] at this
   omega
 · rw [if_neg hc]
   unfold inR
   simp only
   constructor
   · rintro ⟨h1,h2⟩
     refine ⟨?_,fun s hs sb=>?_,fun s hs sb=>?_,fun s hs t ht sb tb=>?_⟩
     · have:=hb (-1) g;have:=hb (-1) b
       constructor
       · split at h1 <;> omega
       · split at h2 <;> omega
     · have a:=he.top s hs sb
       have a0:=hn s hs
       rw [if_pos (by omega)] at h1
       have:=zkm V (known:=known) (m:=m) (f:=-1) a
       omega
     · have a:=he.low s hs sb
       rw [if_pos a.1] at h2
       have:=zdI V (known:=known) (m:=m) (f:=-1) a.2 (Int.le_refl _)
       omega
     · have a:=he.top s hs sb
       have a0:=hn s hs
       have a2:=he.low t ht tb
       have:¬ (b≤g∨zdm w known m g b=0):=fun h=>hc ⟨by omega,a2.1,h⟩
       have h3:0<zdm w known m g b:=by have:=hb g b;omega
       have h4:=zdI V (known:=known) (m:=m) (f:=g) (f':=s.night) a2.2 a
       exact ⟨by omega,by omega⟩
   · intro h
     have hr:=h.range
     constructor
     · by_cases c1:g ≠ -1
       · rw [if_pos c1]
         obtain ⟨s,hs,s1,s2⟩:=he.good.resolve_left c1
         rw [← s2];exact h.good s hs s1
       · rw [if_neg c1];exact hr.1
     · by_cases c2:b ≠ -1
       · rw [if_pos c2]
         obtain ⟨t,ht,t1,t2⟩:=he.bad.resolve_left c2
         have:=h.bad t ht t1
         rw [t2] at this;omega
       · rw [if_neg c2];exact hr.2
theorem zjB (S:List mantle_sight) (hn:∀ x∈S,0≤x.night):∃ g b,Ends S g b:=by
 obtain ⟨r,_,h⟩:=zpm ⟨zpn,[],S⟩ hn
 exact ⟨_,_,h⟩
theorem zmk {c:mantle_coat} {w:Wear} {known:Int} {m:Nat} {S:List mantle_sight} (hc:CoatOk w known m S c) (x:mantle_sight) (hl:S.length≤1000000):Wp (zbF c x) (fun r=>CoatOk w known m (S++[x]) r):=by
 unfold zbF zbO
 have e:=hc.sights
 refine wp_bind (Q:=fun y=>y=S) (za5 (by rw [e];simp [-List.getD_eq_getElem?_getD];omega) (zau (by rw [e];simp [-List.getD_eq_getElem?_getD]))) (fun y hy=>?_)
 subst hy
 exact za5 (by simp [-List.getD_eq_getElem?_getD];omega) (zau ⟨hc.wear,hc.burns,rfl⟩)
end Go.Sp
end
/- Plain laws, mantle: the closet that hang fills. No program in sight. -/
section
set_option linter.all false
namespace Go.Sp
open Go.Av
set_option maxRecDepth 100000
def ba (w:Wear) (i:Nat):Batch:=w.Batches.getD i default
def bat (w:Wear) (i:Nat):Int:=zeo w (mt w i).Batch
theorem zfq {w:Wear} (V:WearOk w) {i:Nat} (hi:i<w.Mantles.length):0≤bat w i∧bat w i<(w.Batches.length:Int):=by
 refine ⟨?_,zpz w _⟩
 rcases Int.lt_or_le (bat w i) 0 with h|h
 · exact absurd (V.has i hi) (zio.1 h)
 · exact h
structure Hung (w:Wear) (known:Int) (S:Nat→List mantle_sight) (c:mantle_closet):Prop where
 wear:c.w=w
 asof:c.known=known
 coats:∀ i:Nat,i<w.Mantles.length→∃ x,c.coats.get (i:Int)=some x∧CoatOk w known i (S i) x
 len:c.lives.length=w.Batches.length
 lives:∀ b:Nat,b<w.Batches.length→∀ x,inR (c.lives.getD b default) x↔inR (ba w b).Life x∧∀ i,i<w.Mantles.length→bat w i=(b:Int)→OkBy w known i (S i) x
 nights:∀ i,i<w.Mantles.length→∀ s∈S i,0≤s.night
 few:∀ i,i<w.Mantles.length→(S i).length≤1000
def lk (l:List Look) (i:Nat):Look:=l.getD i default
def zdg (w:Wear) (known:Int) (l:List Look) (m:Nat):Nat→List mantle_sight
 | 0=>[]
 | n+1=>if fit w (lk l n).Lamp (lk l n).Night known=(m:Int)∧zap (lk l n).Known (lk l n).Until known=true then zdg w known l m n++[⟨(lk l n).Night,(lk l n).Bad⟩] else zdg w known l m n
def sights (w:Wear) (known:Int) (l:List Look) (m:Nat):List mantle_sight:=zdg w known l m l.length
theorem zeG {w:Wear} {known:Int} {l:List Look} {m:Nat} {s:mantle_sight}:∀ {n:Nat},s∈zdg w known l m n↔∃ i,i<n∧fit w (lk l i).Lamp (lk l i).Night known=(m:Int)∧zap (lk l i).Known (lk l i).Until known=true∧s=⟨(lk l i).Night,(lk l i).Bad⟩
 | 0=>⟨fun h=>(by cases h),fun ⟨i,hi,_⟩=>absurd hi (Nat.not_lt_zero _)⟩
 | n+1=>by
  unfold zdg
  by_cases hc:fit w (lk l n).Lamp (lk l n).Night known=(m:Int)∧zap (lk l n).Known (lk l n).Until known=true
  · rw [if_pos hc,List.mem_append,List.mem_singleton,zeG]
    constructor
    · rintro (⟨i,hi,h⟩|h)
      · exact ⟨i,by omega,h⟩
      · exact ⟨n,by omega,hc.1,hc.2,h⟩
    · rintro ⟨i,hi,h⟩
      by_cases e:i=n
      · subst e;exact .inr h.2.2
      · exact .inl ⟨i,by omega,h⟩
  · rw [if_neg hc,zeG]
    constructor
    · rintro ⟨i,hi,h⟩;exact ⟨i,by omega,h⟩
    · rintro ⟨i,hi,h⟩
      by_cases e:i=n
      · subst e;exact absurd ⟨h.1,h.2.1⟩ hc
      · exact ⟨i,by omega,h⟩
theorem zfv {w:Wear} {known:Int} {l:List Look} {m:Nat}:∀ n,(zdg w known l m n).length≤n
 | 0=>by simp [-List.getD_eq_getElem?_getD,zdg]
 | n+1=>by
  unfold zdg
  have:=zfv (w:=w) (known:=known) (l:=l) (m:=m) n
  split
  · simp [-List.getD_eq_getElem?_getD];omega
  · omega
theorem zlg {a b:Range} {x:Int}:inR (zaT a b) x↔inR a x∧inR b x:=by
 unfold zaT inR;simp only;omega
theorem zrc (c:mantle_closet) (hl:c.w.Mantles.length≤60):zbL c=some ((List.range' 0 c.w.Mantles.length).map (fun i:Nat=>((i:Int),(c.coats.get (i:Int)).getD default))):=by
 unfold zbL
 rw [zd5 (by omega),zn8 (fun _=>true) (fun i:Nat=>((i:Int),(c.coats.get (i:Int)).getD default)) (fun i r hi=>rfl)]
 rw [List.filter_eq_self.2 (fun _ _=>rfl)]
theorem zqO {A S R:Type} {body:A→S→(S→Option R)→Option R} {ex:S→Option R} {s0:S} {P:R→Prop} (n:Nat) (f:Nat→A) (Inv:Nat→S→Prop) (h0:Inv 0 s0)
 (hb:∀ (j:Nat) s (K:S→Option R),j<n→Inv j s→(∀ s',Inv (j+1) s'→Wp (K s') P)→Wp (body (f j) s K) P) (he:∀ s,Inv n s→Wp (ex s) P):Wp (ziy body ex ((List.range' 0 n).map f) s0) P:=by
 have go:∀ (m j:Nat),j+m=n→∀ s,Inv j s→Wp (ziy body ex ((List.range' j m).map f) s) P:=by
  intro m
  induction m with
  | zero=>intro j hj s hs;have e:j=n:=(by omega);subst e;exact he s hs
  | succ m ih=>
   intro j hj s hs
   rw [List.range'_succ,List.map_cons]
   exact hb j s _ (by omega) hs (fun s' h'=>ih (j+1) (by omega) s' h')
 exact go n 0 (by omega) s0 h0
theorem zoD {c:mantle_closet} {b:Nat} (hb:b<c.lives.length) (r:Range):zbp c (b:Int) r=some ⟨c.w,c.known,c.coats,c.lives.set b (zaT (c.lives.getD b default) r)⟩:=by
 unfold zbp
 rw [zd5 (by omega),zd5 (by omega)]
 rfl
theorem Mp.zeq {T:Type} (m:Mp T) (k j:Int) (x:T):(m.set k x).get j=if j=k then some x else m.get j:=rfl
theorem zo3 {w:Wear} (V:WearOk w) {fuel:Nat} (hf:1000≤fuel) {l:List Look} (hl:l.length≤1000) (hn:∀ x∈l,0≤x.Night) (known:Int):Wp (zcy fuel w l known) (fun c=>Hung w known (sights w known l) c):=by
 have nm:=V.nm;have nb:=V.nb
 unfold zcy
 refine wp_bind (zqt V hf known) (fun y1 hy1=>zan (by omega) ?_)
 refine zbj (fun i s=>∀ j:Nat,j<i→∃ x,s.get (j:Int)=some x∧CoatOk w known j [] x) (fun j hj=>absurd hj (Nat.not_lt_zero _)) (fun i s K hi hI hK=>hK _ (fun j hj=>?_)) (fun s3 h3=>?_)
 · by_cases e:j=i
   · subst e
     exact ⟨_,by rw [Mp.zeq,if_pos rfl],rfl,hy1 _,rfl⟩
   · rw [Mp.zeq,if_neg (by omega)]
     exact hI j (by omega)
 refine zbj (fun i s=>∀ j:Nat,j<w.Mantles.length→∃ x,s.get (j:Int)=some x∧CoatOk w known j (zdg w known l j i) x) h3 (fun i s K hi hI hK=>?_) (fun s5 h5=>?_)
 · refine zax (zhF w _ _ known) ?_
   have hfl:=zpa w (l.getD i default).Lamp (l.getD i default).Night known
   refine zcn (fun h=>?_) (fun h=>hK _ (fun j hj=>?_))
   · simp only [Bool.and_eq_true,decide_eq_true_eq] at h
     obtain ⟨m,hm⟩:∃ m:Nat,fit w (l.getD i default).Lamp (l.getD i default).Night known=(m:Int):=⟨_,(Int.toNat_of_nonneg h.1).symm⟩
     rw [hm] at hfl ⊢
     obtain ⟨x,e,hx⟩:=hI m (by omega)
     rw [e]
     refine wp_bind (zmk hx _ (by have:=zfv (w:=w) (known:=known) (l:=l) (m:=m) i;omega)) (fun y hy=>hK _ (fun j hj=>?_))
     by_cases ej:j=m
     · subst ej
       refine ⟨y,by rw [Mp.zeq,if_pos rfl],?_⟩
       unfold zdg
       rw [if_pos ⟨hm,h.2⟩]
       exact hy
     · rw [Mp.zeq,if_neg (by omega)]
       unfold zdg
       rw [if_neg (fun h'=>ej (by have:=h'.1.symm.trans hm;omega))]
       exact hI j hj
   · unfold zdg
     rw [if_neg (fun h'=>?_)]
     · exact hI j hj
     · rw [Bool.and_eq_false_iff,decide_eq_false_iff_not] at h
       rcases h with h|h
       · exact h (by have:=h'.1;unfold lk at this;omega)
       · have:=h'.2;unfold lk at this;rw [this] at h;cases h
 refine zbj (fun i s=>s.length=i∧∀ b,b<i→s.getD b default=(ba w b).Life) ⟨rfl,fun b hb=>absurd hb (Nat.not_lt_zero _)⟩ (fun i s K hi hI hK=>za5 (by simp [-List.getD_eq_getElem?_getD];omega) (hK _ ⟨by simp [-List.getD_eq_getElem?_getD,hI.1],fun b hb=>?_⟩)) (fun s12 h12=>?_)
 · rw [zcH]
   by_cases e:b=s.length
   · rw [if_pos e,e,hI.1];rfl
   · rw [if_neg e];exact hI.2 b (by omega)
 refine zax (zrc _ nm) ?_
 refine zqO w.Mantles.length _ (fun j s=>s.length=w.Batches.length∧∀ b:Nat,b<w.Batches.length→∀ x,inR (s.getD b default) x↔inR (ba w b).Life x∧∀ i,i<j→bat w i=(b:Int)→OkBy w known i (sights w known l i) x)
  ⟨h12.1,fun b hb x=>by rw [h12.2 b hb];exact ⟨fun h=>⟨h,fun i hi=>absurd hi (Nat.not_lt_zero _)⟩,fun h=>h.1⟩⟩ (fun j s K hj hI hK=>?_) (fun s hs=>zau ?_)
 · obtain ⟨x,e,hx⟩:=h5 j hj
   have hsn:∀ y∈sights w known l j,0≤y.night:=fun y hy=>by
    obtain ⟨i,hi,_,_,e⟩:=zeG.1 hy
    rw [e];exact hn _ (zbq hi)
   obtain ⟨g,b,he⟩:=zjB (sights w known l j) hsn
   refine zan (by omega) (zax (zgM w _) ?_)
   simp only [Int.toNat_natCast]
   have hbt:=zfq V hj
   have ebt:zeo w (w.Mantles.getD j default).Batch=bat w j:=rfl
   rw [e,ebt]
   obtain ⟨q,hq⟩:∃ q:Nat,bat w j=(q:Int):=⟨_,(Int.toNat_of_nonneg hbt.1).symm⟩
   rw [hq] at hbt ⊢
   refine zax (zkK V hx hsn he) (zax (zoD (c:=⟨w,known,s5,s⟩) (by simp only;omega) _) (zan (by simp [-List.getD_eq_getElem?_getD]) (hK _ ⟨by simp [-List.getD_eq_getElem?_getD,hI.1],fun b' hb' y=>?_⟩)))
   have hlm:=zjo V hsn he y (known:=known) (m:=(j:Int))
   simp only
   rw [zhD _ _ _ _ _ (by omega)]
   by_cases eb:b'=q
   · subst eb
     rw [if_pos rfl,zlg,hI.2 b' hb',hlm]
     constructor
     · rintro ⟨⟨a1,a2⟩,a3⟩
       refine ⟨a1,fun i hi hbi=>?_⟩
       by_cases ei:i=j
       · rw [ei];exact a3
       · exact a2 i (by omega) hbi
     · rintro ⟨a1,a2⟩
       exact ⟨⟨a1,fun i hi hbi=>a2 i (by omega) hbi⟩,a2 j (by omega) hq⟩
   · rw [if_neg eb,hI.2 b' hb']
     constructor
     · rintro ⟨a1,a2⟩
       refine ⟨a1,fun i hi hbi=>?_⟩
       by_cases ei:i=j
       · rw [ei,hq] at hbi;omega
       · exact a2 i (by omega) hbi
     · rintro ⟨a1,a2⟩
       exact ⟨a1,fun i hi hbi=>a2 i (by omega) hbi⟩
 · refine ⟨rfl,rfl,h5,hs.1,hs.2,fun i hi y hy=>?_,fun i hi=>?_⟩
   · obtain ⟨k,hk,_,_,e⟩:=zeG.1 hy
     rw [e];exact hn _ (zbq hk)
   · exact Nat.le_trans (zfv _) hl
def zcj (w:Wear) (known:Int) (S:Nat→List mantle_sight):Prop:=∀ b:Nat,b<w.Batches.length→∃ x,inR (ba w b).Life x∧∀ i,i<w.Mantles.length→bat w i=(b:Int)→OkBy w known i (S i) x
theorem zid {w:Wear} {known:Int} {S:Nat→List mantle_sight} {c:mantle_closet} (h:Hung w known S c):Wp (zaR c) (fun r=>r=true↔zcj w known S):=by
 unfold zaR
 refine zax (show zbG c.lives _=_ from zeV (q:=zaV) (fun x=>rfl) _) (zau ?_)
 rw [Bool.not_eq_true',List.any_eq_false]
 constructor
 · intro h1 b hb
   have h2:=h1 _ (zbq (l:=c.lives) (i:=b) (by rw [h.len];exact hb))
   have h3:(c.lives.getD b default).Lo≤(c.lives.getD b default).Hi:=by
    simp only [zaV,decide_eq_true_eq] at h2;omega
   exact ⟨_,(h.lives b hb _).1 ⟨Int.le_refl _,h3⟩⟩
 · intro h1 r hr
   obtain ⟨b,hb,rfl⟩:=zds hr
   obtain ⟨x,hx⟩:=h1 b (by rw [← h.len];exact hb)
   have:=(h.lives b (by rw [← h.len];exact hb) x).2 hx
   unfold inR at this
   simp only [zaV,decide_eq_true_eq];omega
end Go.Sp
end
/- Plain laws, mantle: whether a mantle is bad. No program in sight. -/
section
set_option linter.all false
namespace Go.Sp
open Go.Av
set_option maxRecDepth 100000
def zdD (w:Wear) (known:Int) (S:Nat→List mantle_sight) (m:Nat) (night:Int) (bad:Bool):Prop:=
 ∃ x,(inR (ba w (bat w m).toNat).Life x∧∀ i,i<w.Mantles.length→bat w i=bat w m→OkBy w known i (S i) x)∧OkBy w known m (S m++[⟨night,bad⟩]) x
open Classical in
noncomputable def stateR (w:Wear) (known:Int) (S:Nat→List mantle_sight) (m:Nat) (night:Int):Int:=
 if ¬ zdD w known S m night true then 0 else if ¬ zdD w known S m night false then 1 else 2
theorem zqv {w:Wear} {known:Int} {S:Nat→List mantle_sight} {c:mantle_closet} (h:Hung w known S c) {m:Nat} (hm:m<w.Mantles.length):zaW c (m:Int)=some (bat w m):=by
 unfold zaW
 rw [h.wear,zd5 (by omega)]
 refine Wp.eq (zax (zgM w _) (zau ?_))
 rfl
theorem zqK {w:Wear} (V:WearOk w) {known:Int} {S:Nat→List mantle_sight} {c:mantle_closet} (h:Hung w known S c) {m:Nat} (hm:m<w.Mantles.length) {night:Int} (hn:0≤night) (bad:Bool) :
 Wp (zbQ c (m:Int) night bad) (fun r=>∀ x,inR r x↔(inR (ba w (bat w m).toNat).Life x∧∀ i,i<w.Mantles.length→bat w i=bat w m→OkBy w known i (S i) x)∧OkBy w known m (S m++[⟨night,bad⟩]) x):=by
 unfold zbQ
 have hb:=zfq V hm
 obtain ⟨x,e,hx⟩:=h.coats m hm
 obtain ⟨q,hq⟩:∃ q:Nat,bat w m=(q:Int):=⟨_,(Int.toNat_of_nonneg hb.1).symm⟩
 refine zax (zqv h hm) ?_
 rw [hq] at hb ⊢
 refine zan (by rw [h.len];omega) ?_
 rw [e]
 refine wp_bind (zmk hx _ (by have:=h.few m hm;omega)) (fun y hy=>?_)
 have hsn:∀ s∈S m++[⟨night,bad⟩],0≤s.night:=fun s hs=>by
  rcases List.mem_append.1 hs with hs|hs
  · exact h.nights m hm s hs
  · rw [List.mem_singleton] at hs;subst hs;exact hn
 obtain ⟨g,b,he⟩:=zjB _ hsn
 refine zax (zkK V hy hsn he) (zau (fun z=>?_))
 rw [zlg,zjo V hsn he,Int.toNat_natCast,h.lives q (by omega)]
theorem zng {r:Range}:zaV r=true↔∀ x,¬ inR r x:=by
 unfold zaV inR
 rw [decide_eq_true_eq]
 exact ⟨fun h x hx=>by omega,fun h=>by have:=h r.Lo;omega⟩
theorem zm2 {w:Wear} (V:WearOk w) {known:Int} {S:Nat→List mantle_sight} {c:mantle_closet} (h:Hung w known S c) {m:Nat} (hm:m<w.Mantles.length) {night:Int} (hn:0≤night):zaS c (m:Int) night=some (stateR w known S m night):=by
 unfold zaS
 refine Wp.eq (wp_bind (zqK V h hm hn true) (fun y1 h1=>?_))
 have e1:zaV y1=true↔¬ zdD w known S m night true:=by
  rw [zng]
  exact ⟨fun k ⟨x,hx⟩=>k x ((h1 x).2 hx),fun k x hx=>k ⟨x,(h1 x).1 hx⟩⟩
 unfold stateR
 refine zcn (fun hb=>zau ?_) (fun hb=>wp_bind (zqK V h hm hn false) (fun y4 h4=>?_))
 · rw [if_pos (e1.1 hb)]
 have c1:¬ ¬ zdD w known S m night true:=fun k=>by rw [e1.2 k] at hb;cases hb
 rw [if_neg c1]
 have e4:zaV y4=true↔¬ zdD w known S m night false:=by
  rw [zng]
  exact ⟨fun k ⟨x,hx⟩=>k x ((h4 x).2 hx),fun k x hx=>k ⟨x,(h4 x).1 hx⟩⟩
 refine zcn (fun hb=>zau ?_) (fun hb=>zau ?_)
 · rw [if_pos (e4.1 hb)]
 · rw [if_neg (fun k=>by rw [e4.2 k] at hb;cases hb)]
def zaU (n:Int):Prop:=0≤n∧n≤100000
instance (n:Int):Decidable (zaU n):=inferInstanceAs (Decidable (_∧_))
theorem zfE {n:Int}:zaM n=true↔zaU n:=by simp [-List.getD_eq_getElem?_getD,zaM,zaC,zaU]
theorem zoB {w:Wear} (V:WearOk w) {l:List Int} (h:∀ n∈l,zaU n):zbZ w l=some 0:=by
 unfold zbZ
 refine Wp.eq (zax (zhA V) (zaP (by simp [-List.getD_eq_getElem?_getD]) (zax (show zbk l _=_ from zeV (q:=zbm) (fun x=>rfl) _) ?_)))
 refine zaP ?_ (zau rfl)
 rw [List.any_eq_false]
 intro n hn
 simp [-List.getD_eq_getElem?_getD,zbm,zfE.2 (h n hn)]
theorem znU {w:Wear} (V:WearOk w) {l:List Int} (h:¬ ∀ n∈l,zaU n):zbZ w l=some 6:=by
 unfold zbZ
 refine Wp.eq (zax (zhA V) (zaP (by simp [-List.getD_eq_getElem?_getD]) (zax (show zbk l _=_ from zeV (q:=zbm) (fun x=>rfl) _) ?_)))
 refine zcN ?_ (zau rfl)
 rw [List.any_eq_true]
 refine Classical.byContradiction (fun k=>h (fun n hn=>?_))
 refine Classical.byContradiction (fun k2=>k ⟨n,hn,?_⟩)
 unfold zbm
 cases h3:zaM n with
 | false=>rfl
 | true=>exact absurd (zfE.1 h3) k2
def zcB (w:Wear) (lamp night known:Int):Int:=if ¬ (1≤lamp∧lamp≤999) then 1 else if ¬ (zaU night∧zaU known) then 6 else if fit w lamp night known<0 then 66 else 0
theorem zlN {w:Wear} {lamp night known:Int} (h:¬ (1≤lamp∧lamp≤999)):zcB w lamp night known=1:=by unfold zcB;exact if_pos h
theorem zlM {w:Wear} {lamp night known:Int} (h:1≤lamp∧lamp≤999) (h2:¬ (zaU night∧zaU known)):zcB w lamp night known=6:=by
 unfold zcB
 exact (if_neg (fun k=>k h)).trans (if_pos h2)
theorem zj8 {w:Wear} {lamp night known:Int} (h:1≤lamp∧lamp≤999) (h2:zaU night∧zaU known) (h3:fit w lamp night known<0):zcB w lamp night known=66:=by
 unfold zcB
 exact (if_neg (fun k=>k h)).trans ((if_neg (fun k=>k h2)).trans (if_pos h3))
theorem zlO {w:Wear} {lamp night known:Int} (h:1≤lamp∧lamp≤999) (h2:zaU night∧zaU known) (h3:¬ fit w lamp night known<0):zcB w lamp night known=0:=by
 unfold zcB
 exact (if_neg (fun k=>k h)).trans ((if_neg (fun k=>k h2)).trans (if_neg h3))
theorem zoX {w:Wear} (V:WearOk w) (lamp night known:Int):zdd w lamp night known=some (if zcB w lamp night known=0 then fit w lamp night known else 0,zcB w lamp night known):=by
 unfold zdd
 refine Wp.eq (zax (zhA V) (zaP (by simp [-List.getD_eq_getElem?_getD]) ?_))
 have e:(!(zaI lamp))=decide (¬ (1≤lamp∧lamp≤999)):=by
  rw [Bool.eq_iff_iff];simp [-List.getD_eq_getElem?_getD,zaI,zaC]
 rw [e]
 refine zbt (fun h=>zau ?_) (fun h=>?_)
 · rw [zlN h];rfl
 have h:=Classical.not_not.1 h
 by_cases hn:zaU night∧zaU known
 · refine zax (zoB V (fun n hn'=>by
    simp only [List.mem_cons,List.not_mem_nil,or_false] at hn'
    rcases hn' with rfl|rfl
    · exact hn.1
    · exact hn.2)) (zaP (by simp [-List.getD_eq_getElem?_getD]) (zax (zhF w _ _ _) ?_))
   refine zbt (fun h2=>zau ?_) (fun h2=>zau ?_)
   · rw [zj8 h hn h2];rfl
   · rw [zlO h hn h2];rfl
 · rw [zlM h hn]
   exact zax (znU V (fun k=>hn ⟨k night (by simp [-List.getD_eq_getElem?_getD]),k known (by simp [-List.getD_eq_getElem?_getD])⟩)) (zcN (by simp [-List.getD_eq_getElem?_getD]) (zau rfl))
theorem zlL {w:Wear} {lamp night known:Int} (h:zcB w lamp night known=0):(1≤lamp∧lamp≤999)∧zaU night∧zaU known∧0≤fit w lamp night known:=by
 by_cases h1:1≤lamp∧lamp≤999
 · by_cases h2:zaU night∧zaU known
   · by_cases h3:fit w lamp night known<0
     · rw [zj8 h1 h2 h3] at h;omega
     · exact ⟨h1,h2.1,h2.2,by omega⟩
   · rw [zlM h1 h2] at h;omega
 · rw [zlN h1] at h;omega
end Go.Sp
end
/- Plain laws, mantle: the document's lives and states. No program in sight. -/
section
set_option linter.all false
namespace Go.Sp
open Go.Av
set_option maxRecDepth 100000
structure ToldL (known:Int) (L:List Look):Prop where
 few:L.length≤900
 night:∀ l∈L,0≤l.Night
 cnt:∀ l∈L,zap l.Known l.Until known=true
def tells (w:Wear) (known:Int) (l:Look):Bool:=decide (0≤fit w l.Lamp l.Night known) && zap l.Known l.Until known
def zpL (w:Wear) (known:Int):List Look:=w.Looks.filter (tells w known)
theorem atR_2 {w:Wear} {lamp night known:Int}:(atR w lamp night known).2=decide (0≤fit w lamp night known):=by
 unfold atR
 by_cases h:fit w lamp night known<0
 · rw [if_pos h];simp [-List.getD_eq_getElem?_getD];omega
 · rw [if_neg h];simp [-List.getD_eq_getElem?_getD];omega
theorem look_ok {w:Wear} (V:WearOk w) {l:Look} (h:l∈w.Looks):zkr l:=V.lo.ok h
theorem OkBy.mono {w:Wear} {known m:Int} {S T:List mantle_sight} {x:Int} (h:OkBy w known m S x) (hs:∀ s∈T,s∈S):OkBy w known m T x:=
 ⟨h.range,fun s hs'=>h.good s (hs s hs'),fun s hs'=>h.bad s (hs s hs'),fun s hs' t ht=>h.two s (hs s hs') t (hs t ht)⟩
theorem id_inj {w:Wear} (V:WearOk w) {i j:Nat} (hi:i<w.Batches.length) (hj:j<w.Batches.length) (e:(ba w i).Id=(ba w j).Id):i=j:=V.ba.inj hi hj e
theorem zmA {w:Wear} (V:WearOk w) {q:Nat} (hq:q<w.Batches.length) {x:Int} (h:inR (ba w q).Life x):0≤x∧x≤1000000:=by
 have:=(V.ba q hq).1.life
 unfold inR ba at h
 omega
theorem zri {w:Wear} (V:WearOk w) {i q:Nat} (hi:i<w.Mantles.length) (hq:q<w.Batches.length):bat w i=(q:Int)↔(mt w i).Batch=(ba w q).Id:=by
 have hb:=zfq V hi
 have e:=zpA (w:=w) (id:=(mt w i).Batch) hb.1
 constructor
 · intro h
   rw [show zeo w (mt w i).Batch=(q:Int) from h] at e
   exact e.symm
 · intro h
   have:=id_inj V (i:=(bat w i).toNat) (by omega) hq (e.trans h)
   omega
def zca (w:Wear) (known:Int) (S:Nat→List mantle_sight) (q:Nat) (x:Int):Prop:=inR (ba w q).Life x∧∀ i,i<w.Mantles.length→bat w i=(q:Int)→OkBy w known i (S i) x
end Go.Sp
end
/- Plain laws, mantle: states by both; MantleAges. No program in sight. -/
section
set_option linter.all false
namespace Go.Sp
open Go.Av
set_option maxRecDepth 100000
theorem zeL {w:Wear} (V:WearOk w) {known:Int} {S:Nat→List mantle_sight} {m:Nat} (hm:m<w.Mantles.length) {night:Int} {bad:Bool} :
 zdD w known S m night bad↔∃ x,zca w known S (bat w m).toNat x∧OkBy w known m (S m++[⟨night,bad⟩]) x:=by
 have hb:=zfq V hm
 have e:(((bat w m).toNat:Nat):Int)=bat w m:=by omega
 unfold zdD zca
 rw [e]
theorem zrb {w:Wear} {known m:Int} {S:List mantle_sight} {g b x:Int} (he:Ends S g b) (h:OkBy w known m S x):(g ≠ -1→zfY w known m (-1) g≤x)∧(b ≠ -1→x<zdm w known m (-1) b)∧(g ≠ -1→b ≠ -1→g<b∧0<zdm w known m g b):=by
 refine ⟨fun hg=>?_,fun hb=>?_,fun hg hb=>?_⟩
 · obtain ⟨s,hs,s1,s2⟩:=he.good.resolve_left hg
   have:=h.good s hs s1
   rwa [s2] at this
 · obtain ⟨s,hs,s1,s2⟩:=he.bad.resolve_left hb
   have:=h.bad s hs s1
   rwa [s2] at this
 · obtain ⟨s,hs,s1,s2⟩:=he.good.resolve_left hg
   obtain ⟨t,ht,t1,t2⟩:=he.bad.resolve_left hb
   have:=h.two s hs t ht s1 t1
   rwa [s2,t2] at this
theorem zmR {w:Wear} (V:WearOk w) {known:Int} {S:List mantle_sight} {m:Int} {night g b x:Int} (hn:0≤night) (hS:∀ s∈S,0≤s.night) (he:Ends S g b) (h:OkBy w known m S x) :
 OkBy w known m (S++[⟨night,true⟩]) x↔g<night∧x<zdm w known m (-1) night∧(g ≠ -1→0<zdm w known m g night):=by
 constructor
 · intro k
   refine ⟨?_,k.bad ⟨night,true⟩ (by simp [-List.getD_eq_getElem?_getD]) rfl,fun hg=>?_⟩
   · by_cases hg:g = -1
     · omega
     · obtain ⟨s,hs,s1,s2⟩:=he.good.resolve_left hg
       have:=(k.two s (List.mem_append.2 (.inl hs)) ⟨night,true⟩ (by simp [-List.getD_eq_getElem?_getD]) s1 rfl).1
       simp only at this;omega
   · obtain ⟨s,hs,s1,s2⟩:=he.good.resolve_left hg
     have:=(k.two s (List.mem_append.2 (.inl hs)) ⟨night,true⟩ (by simp [-List.getD_eq_getElem?_getD]) s1 rfl).2
     rw [s2] at this;exact this
 · rintro ⟨k1,k2,k3⟩
   refine ⟨h.range,fun s hs s1=>?_,fun s hs s1=>?_,fun s hs t ht s1 t1=>?_⟩
   · rcases List.mem_append.1 hs with hs|hs
     · exact h.good s hs s1
     · rw [List.mem_singleton] at hs;subst hs;cases s1
   · rcases List.mem_append.1 hs with hs|hs
     · exact h.bad s hs s1
     · rw [List.mem_singleton] at hs;subst hs;exact k2
   · rcases List.mem_append.1 hs with hs|hs
     · rcases List.mem_append.1 ht with ht|ht
       · exact h.two s hs t ht s1 t1
       · rw [List.mem_singleton] at ht;subst ht
         have a:=he.top s hs s1
         have a0:=hS s hs
         have a2:=k3 (by omega)
         have:=zdI V (known:=known) (m:=m) (f:=g) (f':=s.night) (Int.le_refl night) a
         exact ⟨by simp only;omega,by simp only;omega⟩
     · rw [List.mem_singleton] at hs;subst hs;cases s1
theorem zld {w:Wear} (V:WearOk w) {known:Int} {S:List mantle_sight} {m:Int} {night g b x:Int} (hn:0≤night) (he:Ends S g b) (h:OkBy w known m S x) :
 OkBy w known m (S++[⟨night,false⟩]) x↔zfY w known m (-1) night≤x∧(b ≠ -1→night<b∧0<zdm w known m night b):=by
 constructor
 · intro k
   refine ⟨k.good ⟨night,false⟩ (by simp [-List.getD_eq_getElem?_getD]) rfl,fun hb=>?_⟩
   obtain ⟨s,hs,s1,s2⟩:=he.bad.resolve_left hb
   have:=k.two ⟨night,false⟩ (by simp [-List.getD_eq_getElem?_getD]) s (List.mem_append.2 (.inl hs)) rfl s1
   rw [s2] at this;exact this
 · rintro ⟨k1,k2⟩
   refine ⟨h.range,fun s hs s1=>?_,fun s hs s1=>?_,fun s hs t ht s1 t1=>?_⟩
   · rcases List.mem_append.1 hs with hs|hs
     · exact h.good s hs s1
     · rw [List.mem_singleton] at hs;subst hs;exact k1
   · rcases List.mem_append.1 hs with hs|hs
     · exact h.bad s hs s1
     · rw [List.mem_singleton] at hs;subst hs;cases s1
   · rcases List.mem_append.1 ht with ht|ht
     · rcases List.mem_append.1 hs with hs|hs
       · exact h.two s hs t ht s1 t1
       · rw [List.mem_singleton] at hs;subst hs
         have a:=he.low t ht t1
         have a2:=k2 a.1
         have:=zdI V (known:=known) (m:=m) (f:=night) (f':=night) a.2 (Int.le_refl _)
         exact ⟨by simp only;omega,by simp only;omega⟩
     · rw [List.mem_singleton] at ht;subst ht;cases t1
theorem zkz {w:Wear} {known:Int} {S:Nat→List mantle_sight} {m:Nat} {night:Int} (h:¬ zdD w known S m night true):stateR w known S m night=0:=by unfold stateR;exact if_pos h
theorem zky {w:Wear} {known:Int} {S:Nat→List mantle_sight} {m:Nat} {night:Int} (h:zdD w known S m night true) (h2:¬ zdD w known S m night false):stateR w known S m night=1:=by unfold stateR;exact (if_neg (fun k=>k h)).trans (if_pos h2)
theorem zkx {w:Wear} {known:Int} {S:Nat→List mantle_sight} {m:Nat} {night:Int} (h:zdD w known S m night true) (h2:zdD w known S m night false):stateR w known S m night=2:=by unfold stateR;exact (if_neg (fun k=>k h)).trans (if_neg (fun k=>k h2))
end Go.Sp
end
/- Plain laws, mantle: State, Age, Fitted by both; MantleAges. No program in sight. -/
section
set_option linter.all false
namespace Go.Sp
open Go.Av
set_option maxRecDepth 100000
def zlv (w:Wear) (known:Int) (m:Nat) (l:Look):Bool:=decide (fit w l.Lamp l.Night known=(m:Int)) && zap l.Known l.Until known
def toS (l:Look):mantle_sight:=⟨l.Night,l.Bad⟩
theorem zj0 {w:Wear} {known:Int} {l:List Look} {m:Nat}:∀ {n:Nat},n≤l.length→zdg w known l m n=((l.take n).filter (zlv w known m)).map toS
 | 0,_=>rfl
 | n+1,h=>by
  rw [zb3 (by omega),List.filter_append,List.map_append,← zj0 (by omega)]
  rw [show zdg w known l m (n+1)=if fit w (lk l n).Lamp (lk l n).Night known=(m:Int)∧zap (lk l n).Known (lk l n).Until known=true then zdg w known l m n++[⟨(lk l n).Night,(lk l n).Bad⟩] else zdg w known l m n from rfl]
  by_cases hc:fit w (lk l n).Lamp (lk l n).Night known=(m:Int)∧zap (lk l n).Known (lk l n).Until known=true
  · have:zlv w known m (l.getD n default)=true:=by unfold zlv;rw [Bool.and_eq_true,decide_eq_true_eq];exact hc
    rw [if_pos hc];simp [-List.getD_eq_getElem?_getD,this,toS,lk]
  · have:zlv w known m (l.getD n default)=false:=by
     rw [← Bool.not_eq_true];unfold zlv;rw [Bool.and_eq_true,decide_eq_true_eq];exact hc
    rw [if_neg hc];simp [-List.getD_eq_getElem?_getD,this]
theorem zkC (w:Wear) (known:Int) (l:List Look) (m:Nat):sights w known l m=(l.filter (zlv w known m)).map toS:=by
 unfold sights
 rw [zj0 (Nat.le_refl _),List.take_length]
theorem zjm {w:Wear} (V:WearOk w):w.Looks.length≤1000∧∀ x∈w.Looks,0≤x.Night:=⟨by have:=V.nl;omega,fun x hx=>(look_ok V hx).night.1⟩
abbrev allS (w:Wear) (known:Int):Nat→List mantle_sight:=sights w known w.Looks
theorem zpN {w:Wear} (V:WearOk w) {fuel:Nat} (hf:1000≤fuel) (known:Int):Wp (zdH fuel w known) (fun r=>(zcj w known (allS w known)∧r.2=0∧Hung w known (allS w known) r.1)∨(¬ zcj w known (allS w known)∧r.2=65)):=by
 unfold zdH
 refine wp_bind (zo3 V hf (zjm V).1 (zjm V).2 known) (fun c hc=>wp_bind (zid hc) (fun b hb=>?_))
 refine zcn (fun h=>zau (.inr ⟨fun k=>?_,rfl⟩)) (fun h=>zau (.inl ⟨hb.1 (by simpa [-List.getD_eq_getElem?_getD] using h),rfl,hc⟩))
 rw [hb.2 k] at h;cases h
open Classical in
noncomputable def stateV (w:Wear) (lamp night known:Int):Int×Int:=
 if zcB w lamp night known≠0 then (0,zcB w lamp night known) else if zcj w known (allS w known) then (stateR w known (allS w known) (fit w lamp night known).toNat night,0) else (0,65)
theorem znN {w:Wear} {lamp night known:Int} (h:zcB w lamp night known≠0):stateV w lamp night known=(0,zcB w lamp night known):=by unfold stateV;exact if_pos h
theorem zlq {w:Wear} {lamp night known:Int} (h:zcB w lamp night known=0) (h2:zcj w known (allS w known)):stateV w lamp night known=(stateR w known (allS w known) (fit w lamp night known).toNat night,0):=by unfold stateV;exact (if_neg (fun k=>k h)).trans (if_pos h2)
theorem zlr {w:Wear} {lamp night known:Int} (h:zcB w lamp night known=0) (h2:¬ zcj w known (allS w known)):stateV w lamp night known=(0,65):=by unfold stateV;exact (if_neg (fun k=>k h)).trans (if_neg h2)
theorem zoO {w:Wear} (V:WearOk w) {fuel:Nat} (hf:1000≤fuel) (lamp night known:Int):zc0 fuel w lamp night known=some (stateV w lamp night known):=by
 unfold zc0
 refine Wp.eq (zax (zoX V lamp night known) ?_)
 refine zho (fun h=>zau (znN h).symm) (fun h=>?_)
 have h:zcB w lamp night known=0:=h
 obtain ⟨h1,h2,h3,h4⟩:=zlL h
 simp only [h,if_true]
 have hlt:=zpa w lamp night known
 obtain ⟨m,hm⟩:∃ m:Nat,fit w lamp night known=(m:Int):=⟨_,(Int.toNat_of_nonneg h4).symm⟩
 refine wp_bind (zpN V hf known) (fun r hr=>?_)
 rcases hr with ⟨k1,k2,k3⟩|⟨k1,k2⟩
 · refine zho (fun h=>absurd k2 h) (fun _=>?_)
   rw [hm] at hlt ⊢
   refine zax (zm2 V k3 (by omega) h2.1) (zau ?_)
   rw [zlq h k1,hm,Int.toNat_natCast]
 · refine zho (fun _=>zau ?_) (fun h=>by omega)
   rw [zlr h k1,k2]
end Go.Sp
end
/- Plain laws, mantle: Life, Sound, Clash by both. No program in sight. -/
section
set_option linter.all false
namespace Go.Sp
open Go.Av
set_option maxRecDepth 100000
structure LifeV (w:Wear) (known:Int) (id:Int) (r:Range×Int):Prop where
 inv:¬ WearOk w→r=(⟨0,0⟩,64)
 day:WearOk w→¬ zaU known→r=(⟨0,0⟩,6)
 none:WearOk w→zaU known→zeo w id<0→r=(⟨0,0⟩,3)
 fals:WearOk w→zaU known→0≤zeo w id→¬ zcj w known (allS w known)→r=(⟨0,0⟩,65)
 ok:WearOk w→zaU known→0≤zeo w id→zcj w known (allS w known)→r.2=0∧∀ x,inR r.1 x↔zca w known (allS w known) (zeo w id).toNat x
structure SoundV (w:Wear) (known:Int) (r:Bool×Int):Prop where
 inv:¬ WearOk w→r=(false,64)
 day:WearOk w→¬ zaU known→r=(false,6)
 ok:WearOk w→zaU known→r.2=0∧(r.1=true↔zcj w known (allS w known))
def without (l:List Look) (i:Nat):List Look:=l.take i++l.drop (i+1)
open Classical in
noncomputable def clashF (w:Wear) (known:Int):Nat→List Look→List Look
 | 0,l=>l
 | n+1,l=>if zcj w known (sights w known (without l n)) then clashF w known n l else clashF w known n (without l n)
structure ClashV (w:Wear) (known:Int) (r:List Int×Int):Prop where
 inv:¬ WearOk w→r=([],64)
 day:WearOk w→¬ zaU known→r=([],6)
 none:WearOk w→zaU known→zcj w known (allS w known)→r=([],3)
 ok:WearOk w→zaU known→¬ zcj w known (allS w known)→r=((clashF w known (zpL w known).length (zpL w known)).map (·.Source),0)
end Go.Sp
end
/- Plain laws, mantle: CheckClash by both; MantleLives. No program in sight. -/
section
set_option linter.all false
namespace Go.Sp
open Go.Av
set_option maxRecDepth 100000
structure Picks (w:Wear) (known:Int) (q:List Int) (n:Nat) (s:List Look):Prop where
 len:s.length=n
 mem:∀ j,j<n→lk s j∈zpL w known∧(lk s j).Source=q.getD j default
 ris:∀ j,0<j→j<n→q.getD (j - 1) default<q.getD j default
theorem Picks.all {w:Wear} {known:Int} {q:List Int} {n:Nat} {s:List Look} (h:Picks w known q n s):∀ l∈s,l∈zpL w known:=fun l hl=>by
 obtain ⟨i,hi,e⟩:=zds hl
 have:=(h.mem i (by have:=h.len;omega)).1
 unfold lk at this
 rwa [e] at this
def CC (w:Wear) (known:Int) (q:List Int):Prop:=∃ s,Picks w known q q.length s∧¬ zcj w known (sights w known s)∧∀ i,i<s.length→zcj w known (sights w known (without s i))
structure CheckV (w:Wear) (known:Int) (q:List Int) (r:Int):Prop where
 inv:¬ WearOk w→r=64
 day:WearOk w→¬ zaU known→r=6
 yes:WearOk w→zaU known→CC w known q→r=0
 no:WearOk w→zaU known→¬ CC w known q→r=68
end Go.Sp
end
/- Plain laws, mantle: slices.Compact; a wear without a source; Moved by both; MantleMoves. No program in sight. -/
section
set_option linter.all false
namespace Go.Sp
open Go.Av
set_option maxRecDepth 100000
theorem zqz {l:List Int} (h:∀ i,0<i→i<l.length→l.getD (i - 1) default<l.getD i default):l.Pairwise (· < ·):=zko (fun x:Int=>x) h
theorem zkJ {l:List Int} (h:l.Pairwise (· < ·)) {i j:Nat} (hij:i<j) (hj:j<l.length):l.getD i default<l.getD j default:=zi6 (f:=fun x:Int=>x) h hij hj
def zq4 (w:Wear) (src:Int):Wear:=⟨w.Batches,w.Mantles.filter (fun m=>!decide (m.Source=src)),w.Burns.filter (fun b=>!decide (b.Source=src)),w.Looks.filter (fun l=>!decide (l.Source=src))⟩
def total (w:Wear):Nat:=w.Mantles.length+w.Burns.length+w.Looks.length
end Go.Sp
end
/- Plain laws, mantle: Moved by both; MantleMoves. No program in sight. -/
section
set_option linter.all false
namespace Go.Sp
open Go.Av
set_option maxRecDepth 100000
def Moves (w:Wear) (src night known:Int) (lamp:Int):Prop:=stateV w lamp night known≠stateV (zq4 w src) lamp night known
structure MovedV (w:Wear) (src night known:Int) (r:List Int×Int):Prop where
 inv:¬ WearOk w→r=([],64)
 day:WearOk w→¬ (zaU night∧zaU known)→r=([],6)
 none:WearOk w→zaU night∧zaU known→¬ total (zq4 w src)<total w→r=([],3)
 ok:WearOk w→zaU night∧zaU known→total (zq4 w src)<total w→r.2=0∧r.1.Pairwise (· < ·)∧(∀ x,x∈r.1↔(∃ j,j<w.Mantles.length∧(mt w j).Lamp=x)∧Moves w src night known x)∧r.1.length≤60
end Go.Sp
end
/- Plain laws, mantle: the wears that numbers determine. No program in sight. -/
section
set_option linter.all false
namespace Go.Sp
open Go.Av
set_option maxRecDepth 100000
theorem zdG {n m:Int} (hm:0<m∧m≤1000000):Wp (zar n m) (fun r=>0≤r∧r<m):=by
 unfold zar
 have h1:=Int.tmod_lt_of_pos n hm.1
 have h2 : -m<Int.tmod n m:=by
  have:=Int.tmod_lt_of_pos (-n) hm.1
  rw [Int.neg_tmod] at this
  omega
 refine zan (by omega) (zag (by omega) (zan (by omega) (zau ⟨Int.tmod_nonneg _ (by omega),Int.tmod_lt_of_pos _ hm.1⟩)))
theorem zoy {l:List Int} {i:Int} (hi:0≤i):Wp (zbS l i) (fun _=>True):=by
 unfold zbS
 refine zbt (fun _=>zau trivial) (fun h=>?_)
 have h0:(0:Int)<(l.length:Int):=by omega
 exact zan (by omega) (zan ⟨Int.tmod_nonneg _ hi,Int.tmod_lt_of_pos _ h0⟩ (zau trivial))
structure TrueT (w:Wear) (t:Lives):Prop where
 nl:t.Lives.length=w.Batches.length
 lives:∀ i,i<w.Batches.length→inR (ba w i).Life (t.Lives.getD i default)
 nm:t.Minutes.length=w.Burns.length
 mins:∀ i,i<w.Burns.length→(bn w i).Minutes.Lo≤t.Minutes.getD i default∧t.Minutes.getD i default≤(bn w i).Minutes.Hi
structure MadeV (w:Wear) (t:Lives):Prop where
 ok:WearOk w
 tr:TrueT w t
 looks:w.Looks.length≤6
 src:∀ l∈w.Looks,l.Source≤60
theorem zhG {T:Type} [Inhabited T] {ok:T→Prop} {num:T→Int} {l:List T} (h:zfR ok num l) {x:T} (hx:ok x) (hn:∀ y∈l,num y<num x):zfR ok num (l++[x]):=by
 intro i hi
 simp only [List.length_append,List.length_cons,List.length_nil] at hi
 rw [zcH,zcH]
 by_cases e:i=l.length
 · rw [if_pos e]
   refine ⟨hx,fun h0=>?_⟩
   rw [if_neg (by omega)]
   exact hn _ (zbq (by omega))
 · rw [if_neg e]
   refine ⟨(h i (by omega)).1,fun h0=>?_⟩
   rw [if_neg (by omega)]
   exact (h i (by omega)).2 h0
theorem ziX {T:Type} [Inhabited T] {ok:T→Prop} {num:T→Int}:zfR ok num ([]:List T):=fun i hi=>absurd hi (Nat.not_lt_zero _)
theorem zq1 {fuel:Nat} (hf:1000≤fuel) (r:gasolierref06_Raw) (q:List Int):Wp (zcf fuel r q) (fun z=>MadeV z.1 z.2):=by
 unfold zcf
 refine ziZ 2 (by omega) (fun i s=>s.1.length=i∧s.2.length=i∧zfR BatchOk (·.Id) s.1∧(∀ j,j<i→(s.1.getD j default).Id=(j:Int)+1)∧∀ j,j<i→inR (s.1.getD j default).Life (s.2.getD j default)) ⟨rfl,rfl,ziX,fun j hj=>absurd hj (Nat.not_lt_zero _),fun j hj=>absurd hj (Nat.not_lt_zero _)⟩ (fun i s K hi hI hK=>?_)
 obtain ⟨bs,ls⟩:=s
 obtain ⟨b1,b2,b3,b4,b5⟩:=hI
 simp only at b1 b2 b3 b4 b5 ⊢
 refine zcn (fun hb=>?_) (fun hb=>?_)
 · have hi2:i<2:=by
    simp only [Bool.or_eq_true,Bool.and_eq_true,decide_eq_true_eq] at hb
    omega
   refine zfr (fun _=>True) (fun K2 hK2=>?_) (fun s3 _=>?_)
   · exact zbt (fun h=>zan (by omega) (hK2 _ trivial)) (fun h=>hK2 _ trivial)
   refine wp_bind (zdG (by omega)) (fun lo hlo=>zag (by omega) (wp_bind (zdG (by omega)) (fun d hd=>zag (by omega) ?_)))
   refine za5 (by simp [-List.getD_eq_getElem?_getD];omega) (wp_bind (zoy (by omega)) (fun p _=>zag (by omega) (zag (by omega) (wp_bind (zdG (by omega)) (fun v hv=>zag (by omega) (za5 (by simp [-List.getD_eq_getElem?_getD];omega) (zag (by omega) (hK _ hi2 ?_))))))))
   refine ⟨by simp [-List.getD_eq_getElem?_getD,b1],by simp [-List.getD_eq_getElem?_getD,b2],zhG b3 ⟨by simp only;omega,by simp only;omega⟩ (fun y hy=>?_),fun j hj=>?_,fun j hj=>?_⟩
   · obtain ⟨j,hj,e⟩:=zds hy
     have:=b4 j (by omega)
     rw [e] at this
     simp only;omega
   · rw [zcH]
     by_cases e:j=bs.length
     · rw [if_pos e];simp only;omega
     · rw [if_neg e];exact b4 j (by omega)
   · rw [zcH,zcH]
     by_cases e:j=bs.length
     · rw [if_pos e,if_pos (by omega)];unfold inR;simp only;omega
     · rw [if_neg e,if_neg (by omega)];exact b5 j (by omega)
 have hi1:1≤i:=by
  simp only [Bool.or_eq_false_iff,decide_eq_false_iff_not] at hb
  omega
 refine ziZ 7 (by omega) (fun j s=>s.length=j∧zfR MantleOk (·.Source) s∧(∀ k,k<j→(s.getD k default).Source=(k:Int)+1)∧∀ k,k<j→∃ q,q<bs.length∧(bs.getD q default).Id=(s.getD k default).Batch) ⟨rfl,ziX,fun j hj=>absurd hj (Nat.not_lt_zero _),fun j hj=>absurd hj (Nat.not_lt_zero _)⟩ (fun j ms K2 hj hI2 hK2=>?_)
 obtain ⟨m1,m2,m3,m4⟩:=hI2
 refine zcn (fun hb=>?_) (fun _=>?_)
 · simp only [Bool.and_eq_true,decide_eq_true_eq] at hb
   refine zan (by simp only;omega) (zag (by simp only;omega) (wp_bind (zdG (by omega)) (fun a ha=>zag (by omega) (wp_bind (zdG (by omega)) (fun b hb2=>zag (by omega) (wp_bind (zdG (by omega)) (fun c hc=>wp_bind (zdG (by omega)) (fun d hd=>?_))))))))
   refine za5 (by simp [-List.getD_eq_getElem?_getD];omega) (zag (by simp only;omega) (hK2 _ (by omega) ⟨by simp [-List.getD_eq_getElem?_getD,m1],zhG m2 ⟨⟨by simp only;omega,by simp only;omega,by simp only;omega,by simp only;omega,.inl rfl⟩,by simp only;omega⟩ (fun y hy=>?_),fun k hk=>?_,fun k hk=>?_⟩))
   · obtain ⟨k,hk,e⟩:=zds hy
     have:=m3 k (by omega)
     rw [e] at this
     simp only;omega
   · rw [zcH]
     by_cases e:k=ms.length
     · rw [if_pos e];simp only;omega
     · rw [if_neg e];exact m3 k (by omega)
   · rw [zcH]
     by_cases e:k=ms.length
     · rw [if_pos e]
       refine ⟨b.toNat,by omega,?_⟩
       have:=b4 b.toNat (by omega)
       simp only;omega
     · rw [if_neg e];exact m4 k (by omega)
 refine ziZ 14 (by omega) (fun j s=>s.1.length=j∧s.2.length=j∧zfR BurnOk (·.Source) s.1∧(∀ k,k<j→(s.1.getD k default).Source=(k:Int)+20)∧∀ k,k<j→(s.1.getD k default).Minutes.Lo≤s.2.getD k default∧s.2.getD k default≤(s.1.getD k default).Minutes.Hi) ⟨rfl,rfl,ziX,fun j hj=>absurd hj (Nat.not_lt_zero _),fun j hj=>absurd hj (Nat.not_lt_zero _)⟩ (fun j3 s K3 hj3 hI3 hK3=>?_)
 obtain ⟨us,ts⟩:=s
 obtain ⟨u1,u2,u3,u4,u5⟩:=hI3
 simp only at u1 u2 u3 u4 u5 ⊢
 refine zcn (fun hb=>?_) (fun _=>?_)
 · simp only [Bool.and_eq_true,decide_eq_true_eq] at hb
   refine zan (by omega) (wp_bind (zdG (by omega)) (fun lo hlo=>zag (by omega) (wp_bind (zdG (by omega)) (fun a ha=>zag (by omega) (wp_bind (zdG (by omega)) (fun n hn=>wp_bind (zdG (by omega)) (fun d hd=>zag (by omega) (wp_bind (zdG (by omega)) (fun k hk=>?_)))))))))
   refine za5 (by simp [-List.getD_eq_getElem?_getD];omega) (zag (by omega) (wp_bind (zoy (by omega)) (fun p _=>zag (by omega) (zag (by omega) (wp_bind (zdG (by omega)) (fun v hv=>zag (by omega) (za5 (by simp [-List.getD_eq_getElem?_getD];omega) (zag (by omega) (hK3 _ (by omega) ?_)))))))))
   refine ⟨by simp [-List.getD_eq_getElem?_getD,u1],by simp [-List.getD_eq_getElem?_getD,u2],zhG u3 ⟨⟨by simp only;omega,by simp only;omega,by simp only;omega,by simp only;omega,.inl rfl⟩,by simp only;omega⟩ (fun y hy=>?_),fun j hj=>?_,fun j hj=>?_⟩
   · obtain ⟨k2,hk2,e⟩:=zds hy
     have:=u4 k2 (by omega)
     rw [e] at this
     simp only;omega
   · rw [zcH]
     by_cases e:j=us.length
     · rw [if_pos e];simp only;omega
     · rw [if_neg e];exact u4 j (by omega)
   · rw [zcH,zcH]
     by_cases e:j=us.length
     · rw [if_pos e,if_pos (by omega)];simp only;omega
     · rw [if_neg e,if_neg (by omega)];exact u5 j (by omega)
 refine ziZ 6 (by omega) (fun j s=>s.length=j∧zfR zkr (·.Source) s∧∀ k,k<j→(s.getD k default).Source=(k:Int)+50) ⟨rfl,ziX,fun j hj=>absurd hj (Nat.not_lt_zero _)⟩ (fun j4 xs K4 hj4 hI4 hK4=>?_)
 obtain ⟨x1,x2,x3⟩:=hI4
 refine zcn (fun hb=>?_) (fun _=>zau ?_)
 · simp only [Bool.and_eq_true,decide_eq_true_eq] at hb
   refine zan (by simp only;omega) (zag (by simp only;omega) (wp_bind (zdG (by omega)) (fun a ha=>zag (by omega) (wp_bind (zdG (by omega)) (fun n hn=>wp_bind (zdG (by omega)) (fun d hd=>wp_bind (zdG (by omega)) (fun k hk=>?_)))))))
   refine za5 (by simp [-List.getD_eq_getElem?_getD];omega) (zag (by simp only;omega) (hK4 _ (by omega) ⟨by simp [-List.getD_eq_getElem?_getD,x1],zhG x2 ⟨by simp only;omega,by simp only;omega,by simp only;omega,by simp only;omega,.inl rfl⟩ (fun y hy=>?_),fun k hk=>?_⟩))
   · obtain ⟨k2,hk2,e⟩:=zds hy
     have:=x3 k2 (by omega)
     rw [e] at this
     simp only;omega
   · rw [zcH]
     by_cases e:k=xs.length
     · rw [if_pos e];simp only;omega
     · rw [if_neg e];exact x3 k (by omega)
 · refine ⟨⟨by simp only;omega,by simp only;omega,by simp only;omega,by simp only;omega,b3,m2,u3,x2,fun k hk=>m4 k (by simp only at hk;omega)⟩,⟨by simp only;omega,fun k hk=>b5 k (by simp only at hk;omega),by simp only;omega,fun k hk=>u5 k (by simp only at hk;omega)⟩,by simp only;omega,fun l hl=>?_⟩
   obtain ⟨k,hk,e⟩:=zds (l:=xs) hl
   have:=x3 k (by omega)
   rw [e] at this
   omega
end Go.Sp
end
/- Plain laws, mantle: looks that are right by lives and minutes. No program in sight. -/
section
set_option linter.all false
namespace Go.Sp
open Go.Av
set_option maxRecDepth 100000
def zgZ (w:Wear) (l:List Look):Wear:=⟨w.Batches,w.Mantles,w.Burns,l⟩
theorem zo9 (w:Wear) (l:List Look) (lamp night known:Int):fit (zgZ w l) lamp night known=fit w lamp night known:=by
 have go:∀ n,fitN (zgZ w l) lamp night known n=fitN w lamp night known n:=by
  intro n
  induction n with
  | zero=>rfl
  | succ n ih=>unfold fitN;rw [ih];rfl
 exact go _
theorem zqP (w:Wear) (l:List Look) (known:Int) (i:Nat):tell (zgZ w l) known i=tell w known i:=by
 unfold tell
 rw [zo9]
 rfl
theorem zp9 (w:Wear) (l:List Look) (known m f t:Int) (i:Nat):zfl (zgZ w l) known m f t i=zfl w known m f t i:=by
 unfold zfl
 rw [zo9,zqP]
 rfl
theorem zpK {w:Wear} {t:Lives} (h:TrueT w t) (l:List Look):TrueT (zgZ w l) t:=⟨h.nl,h.lives,h.nm,h.mins⟩
def tAge (w:Wear) (known:Int) (t:Lives) (m f n:Int):Int:=zaL (zfl w known m f n) (fun i=>t.Minutes.getD i default) w.Burns.length
theorem zqQ {w:Wear} {t:Lives} (h:TrueT w t) (known m f n:Int):zfY w known m f n≤tAge w known t m f n:=zfu (fun i hi _=>(h.mins i hi).1)
theorem zkw {w:Wear} {t:Lives} (h:TrueT w t) (known m f n:Int):tAge w known t m f n≤zdm w known m f n:=zfu (fun i hi _=>(h.mins i hi).2)
theorem tMin {w:Wear} (V:WearOk w) {t:Lives} (h:TrueT w t) {i:Nat} (hi:i<w.Burns.length):0≤t.Minutes.getD i default∧t.Minutes.getD i default≤1440:=by
 have h1:=h.mins i hi
 have h2:=(zlh V hi).min
 omega
theorem zi5 {w:Wear} (V:WearOk w) {t:Lives} (h:TrueT w t) {known m f n n':Int} (hn:n≤n'):tAge w known t m f n≤tAge w known t m f n':=by
 refine zf1 (fun i hi=>(tMin V h hi).1) (fun i hi hp=>?_)
 simp only [zfl,Bool.and_eq_true,decide_eq_true_eq] at hp ⊢
 exact ⟨hp.1,hp.2.1,by omega⟩
theorem znK {w:Wear} {t:Lives} {known m a b c:Int} (h1:a≤b) (h2:b≤c):tAge w known t m a c=tAge w known t m a b+tAge w known t m b c:=by
 refine zdW (fun i hi=>?_) (fun i hi h=>?_)
 · rw [Bool.eq_iff_iff]
   simp only [zfl,Bool.or_eq_true,Bool.and_eq_true,decide_eq_true_eq]
   constructor
   · rintro ⟨h3,h4,h5⟩
     rcases Int.lt_or_le b (bn w i).Night with h|h
     · exact .inr ⟨h3,h,h5⟩
     · exact .inl ⟨h3,h4,h⟩
   · rintro (⟨h3,h4,h5⟩|⟨h3,h4,h5⟩)
     · exact ⟨h3,h4,by omega⟩
     · exact ⟨h3,by omega,h5⟩
 · simp only [zfl,Bool.and_eq_true,decide_eq_true_eq] at h
   omega
def tBad (w:Wear) (known:Int) (t:Lives) (m:Nat) (night:Int):Bool:=decide (t.Lives.getD (bat w m).toNat default<tAge w known t (m:Int) (-1) night)
def zli (w:Wear) (known:Int) (t:Lives) (lamp night:Int):Bool:=if fit w lamp night known<0 then false else tBad w known t (fit w lamp night known).toNat night
theorem zoz {w:Wear} (V:WearOk w) {t:Lives} (h:TrueT w t) {known:Int} {m:Nat} (hm:m<w.Mantles.length) {S:List mantle_sight} (hS:∀ s∈S,s.bad=tBad w known t m s.night):OkBy w known m S (t.Lives.getD (bat w m).toNat default):=by
 have hb:=zfq V hm
 have hg:∀ s∈S,s.bad=false→tAge w known t m (-1) s.night≤t.Lives.getD (bat w m).toNat default:=fun s hs e=>by
  have:=hS s hs
  rw [e] at this
  have:=of_decide_eq_false this.symm
  omega
 have hbd:∀ s∈S,s.bad=true→t.Lives.getD (bat w m).toNat default<tAge w known t m (-1) s.night:=fun s hs e=>by
  have:=hS s hs
  rw [e] at this
  exact of_decide_eq_true this.symm
 refine ⟨zmA V (q:=(bat w m).toNat) (by omega) (h.lives _ (by omega)),fun s hs e=>?_,fun s hs e=>?_,fun s hs u hu e e2=>?_⟩
 · exact Int.le_trans (zqQ h known m (-1) s.night) (hg s hs e)
 · exact Int.lt_of_lt_of_le (hbd s hs e) (zkw h known m (-1) s.night)
 · have h1:=hg s hs e
   have h2:=hbd u hu e2
   have hlt:s.night<u.night:=by
    rcases Int.lt_or_le s.night u.night with h3|h3
    · exact h3
    · have:=zi5 V h (known:=known) (m:=(m:Int)) (f:=-1) h3;omega
   refine ⟨hlt,?_⟩
   by_cases h0 : -1≤s.night
   · have:=znK (w:=w) (t:=t) (known:=known) (m:=(m:Int)) h0 (Int.le_of_lt hlt)
     have:=zkw h known m s.night u.night
     omega
   · have h3:=zkw h known m (-1) u.night
     have h4:=zdI V (known:=known) (m:=(m:Int)) (f:=-1) (f':=s.night) (Int.le_refl u.night) (by omega)
     have h5:0≤t.Lives.getD (bat w m).toNat default:=(zmA V (q:=(bat w m).toNat) (by omega) (h.lives _ (by omega))).1
     omega
def zkq (w:Wear) (known:Int) (t:Lives) (L:List Look):Prop:=∀ l∈L,l.Bad=zli w known t l.Lamp l.Night
theorem zlu {w:Wear} {known:Int} {t:Lives} {L:List Look} (h:zkq w known t L) {m:Nat}:∀ s∈sights w known L m,s.bad=tBad w known t m s.night:=fun s hs=>by
 obtain ⟨i,hi,h1,h2,h3⟩:=zeG.1 hs
 have:=h _ (zbq hi)
 unfold lk at *
 rw [h3]
 simp only
 rw [this]
 unfold zli
 rw [h1,if_neg (by omega),Int.toNat_natCast]
theorem znO {w:Wear} (V:WearOk w) {t:Lives} (h:TrueT w t) {known:Int} {L:List Look} (hL:zkq w known t L):∀ b,b<w.Batches.length→zca w known (sights w known L) b (t.Lives.getD b default):=fun b hb=>by
 refine ⟨h.lives b hb,fun i hi hbi=>?_⟩
 have:=zoz V h hi (zlu hL (m:=i))
 rw [hbi,Int.toNat_natCast] at this
 exact this
theorem zls {w:Wear} (V:WearOk w) {t:Lives} (h:TrueT w t) {known:Int} {L:List Look} (hL:zkq w known t L):zcj w known (sights w known L):=fun b hb=>⟨_,znO V h hL b hb⟩
theorem znL {P:Nat→Bool} {f:Nat→Int} {n:Nat} (h:P n=true):zaL P f n+f n=zaL P f (n+1):=by
 show _=zaL P f n+(if P n=true then f n else 0)
 rw [if_pos h]
theorem zoj {P:Nat→Bool} {f:Nat→Int} {n:Nat} (h:P n=false):zaL P f n=zaL P f (n+1):=by
 show _=zaL P f n+(if P n=true then f n else 0)
 rw [if_neg (by rw [h];decide),Int.add_zero]
theorem zp7 {w:Wear} (V:WearOk w) {t:Lives} (h:TrueT w t) {fuel:Nat} (hf:1000≤fuel) (lamp night known:Int):zb6 fuel w t ⟨lamp,night,known⟩=some (zli w known t lamp night):=by
 have nm:=V.nm;have nu:=V.nu;have nb:=V.nb
 unfold zb6
 refine Wp.eq (zax (at_eq (by omega) nm _ _ _) (zax (znJ V (by omega) known) ?_))
 have hP:∀ M:Mantle,∀ n:Nat,n≤w.Burns.length→0≤zaL (fun i=>tell w known i && decide ((bn w i).Lamp=lamp) && zaB (bn w i).Night M.Night night) (fun i=>t.Minutes.getD i default) n∧zaL (fun i=>tell w known i && decide ((bn w i).Lamp=lamp) && zaB (bn w i).Night M.Night night) (fun i=>t.Minutes.getD i default) n≤86400:=fun M n hn=>by
  have:=zea (P:=fun i=>tell w known i && decide ((bn w i).Lamp=lamp) && zaB (bn w i).Night M.Night night) (f:=fun i=>t.Minutes.getD i default) (c:=1440) (by decide) (n:=n) (fun i hi=>tMin V h (by omega))
  omega
 generalize hM:atR w lamp night known=z
 obtain ⟨M,ok⟩:=z
 simp only
 refine zqM w.Burns.length (by omega) (fun i s=>s=zaL (fun i=>tell w known i && decide ((bn w i).Lamp=lamp) && zaB (bn w i).Night M.Night night) (fun i=>t.Minutes.getD i default) i) rfl (fun i s K hi hI hK=>?_)
 subst hI
 by_cases hin:i<w.Burns.length
 · have h60:=hP M i (by omega)
   have hmin:=tMin V h hin
   refine zcN (by simp [-List.getD_eq_getElem?_getD];omega) (zan (by simp only;omega) (zan (by simp [-List.getD_eq_getElem?_getD];omega) ?_))
   simp only [Int.toNat_natCast]
   have e:((List.range w.Burns.length).map (tell w known)).getD i default=tell w known i:=by
    rw [List.getD_eq_getElem?_getD,List.getElem?_map,List.getElem?_range hin];rfl
   rw [e]
   refine zcn (fun hb=>zan (by rw [h.nm];omega) (zag (by omega) (zag (by omega) (hK _ hin ?_)))) (fun hb=>zag (by omega) (hK _ hin ?_))
   · exact znL (P:=fun i=>tell w known i && decide ((bn w i).Lamp=lamp) && zaB (bn w i).Night M.Night night) (f:=fun i=>t.Minutes.getD i default) hb
   · exact zoj (P:=fun i=>tell w known i && decide ((bn w i).Lamp=lamp) && zaB (bn w i).Night M.Night night) (f:=fun i=>t.Minutes.getD i default) hb
 have ei:i=w.Burns.length:=by omega
 subst ei
 refine zaP (by simp [-List.getD_eq_getElem?_getD]) ?_
 unfold atR at hM
 unfold zli
 by_cases hfit:fit w lamp night known<0
 · rw [if_pos hfit] at hM ⊢
   cases hM
   refine zkv (n:=w.Batches.length) (by omega) (fun j=>(ba w j).Id≠0) (fun j K2 hj _ hK2=>?_) (fun _ K2=>zaP (by simp [-List.getD_eq_getElem?_getD]) (zau rfl))
   refine zcN (by simp [-List.getD_eq_getElem?_getD];omega) (zan (by omega) ?_)
   refine zbt (fun _=>zan (fun k=>(by cases k)) (zau (by simp [-List.getD_eq_getElem?_getD]))) (fun hne=>zag (by omega) (hK2 (by simpa [-List.getD_eq_getElem?_getD,ba,zpo] using hne)))
 · rw [if_neg hfit] at hM ⊢
   cases hM
   obtain ⟨m,hm⟩:∃ m:Nat,fit w lamp night known=(m:Int):=⟨_,(Int.toNat_of_nonneg (by omega)).symm⟩
   have hfi:=zny hm
   rw [hm,Int.toNat_natCast]
   have hbt:=zfq V hfi.lt
   have hsum:zaL (fun i=>tell w known i && decide ((bn w i).Lamp=lamp) && zaB (bn w i).Night (mt w m).Night night) (fun i=>t.Minutes.getD i default) w.Burns.length=tAge w known t m (-1) night:=by
    refine zeR (fun i hi=>?_)
    rw [← zqa V hfi hi]
    unfold zo0
    rw [hfi.cand.1]
   rw [hsum]
   refine zkv (n:=w.Batches.length) (by omega) (fun j=>(ba w j).Id≠(mt w m).Batch) (fun j K2 hj _ hK2=>?_) (fun hall K2=>?_)
   · refine zcN (by simp [-List.getD_eq_getElem?_getD];omega) (zan (by omega) ?_)
     simp only [Int.toNat_natCast]
     refine zbt (fun he=>zan (fun _=>by rw [h.nl];omega) (zau ?_)) (fun hne=>zag (by omega) (hK2 hne))
     have ej:bat w m=(j:Int):=(zri V hfi.lt hj).2 he.symm
     have e5:tBad w known t m night=decide (t.Lives.getD j default<tAge w known t m (-1) night):=by
      unfold tBad
      rw [ej,Int.toNat_natCast]
     rw [e5]
     exact Bool.true_and _
   · obtain ⟨j,hj,e⟩:=V.has m hfi.lt
     exact absurd e (hall j hj)
def zeT (w:Wear) (known:Int) (t:Lives) (l:List Look):List Look:=l.map (fun l=>⟨l.Source,l.Lamp,l.Night,zli w known t l.Lamp l.Night,l.Known,l.Until⟩)
def ziv (w:Wear) (known:Int) (t:Lives):Wear:=zgZ w (zeT w known t w.Looks)
theorem zdb (w:Wear) (known:Int) (t:Lives) (l:List Look):(zeT w known t l).length=l.length:=by simp [-List.getD_eq_getElem?_getD,zeT]
theorem zh2 {w:Wear} {known:Int} {t:Lives} {l:List Look} {i:Nat} (hi:i<l.length):(zeT w known t l).getD i default=⟨(lk l i).Source,(lk l i).Lamp,(lk l i).Night,zli w known t (lk l i).Lamp (lk l i).Night,(lk l i).Known,(lk l i).Until⟩:=by
 unfold zeT lk
 rw [List.getD_eq_getElem?_getD,List.getElem?_map,List.getElem?_eq_getElem hi,List.getD_eq_getElem?_getD,List.getElem?_eq_getElem hi];rfl
theorem zot {w:Wear} (V:WearOk w) (known:Int) (t:Lives):WearOk (ziv w known t):=by
 refine ⟨V.nb,V.nm,V.nu,by show (zeT w known t w.Looks).length≤60;rw [zdb];exact V.nl,V.ba,V.ma,V.bu,fun i hi=>?_,V.has⟩
 have hi':i<w.Looks.length:=by
  have:(ziv w known t).Looks.length=w.Looks.length:=zdb w known t w.Looks
  omega
 have h1:=V.lo i hi'
 show zkr ((zeT w known t w.Looks).getD i default)∧(0<i→((zeT w known t w.Looks).getD (i - 1) default).Source<((zeT w known t w.Looks).getD i default).Source)
 rw [zh2 hi']
 refine ⟨h1.1,fun h0=>?_⟩
 rw [zh2 (by omega)]
 exact h1.2 h0
theorem zqw (w:Wear) (l:List Look) (known:Int) (t:Lives) (lamp night:Int):zli (zgZ w l) known t lamp night=zli w known t lamp night:=by
 unfold zli tBad
 rw [zo9]
 have:∀ m n:Int,tAge (zgZ w l) known t m (-1) n=tAge w known t m (-1) n:=fun m n=>zeR (fun i _=>zp9 w l known m (-1) n i)
 rw [this]
 rfl
theorem zlz (w:Wear) (known:Int) (t:Lives):zkq (ziv w known t) known t (ziv w known t).Looks:=fun l hl=>by
 have hl':l∈zeT w known t w.Looks:=hl
 unfold ziv
 rw [zqw]
 unfold zeT at hl'
 rw [List.mem_map] at hl'
 obtain ⟨l0,_,rfl⟩:=hl'
 rfl
theorem zpU {w:Wear} (V:WearOk w) {t:Lives} (h:TrueT w t) {fuel:Nat} (hf:1000≤fuel) (known:Int):zb7 fuel w t known=some (ziv w known t):=by
 have nm:=V.nm;have nu:=V.nu;have nb:=V.nb;have nl:=V.nl
 unfold zb7 zbT
 refine Wp.eq (wp_bind (Q:=fun y=>y=w) (za5 (by simp [-List.getD_eq_getElem?_getD];omega) (za5 (by simp [-List.getD_eq_getElem?_getD];omega) (za5 (by simp [-List.getD_eq_getElem?_getD];omega) (za5 (by simp [-List.getD_eq_getElem?_getD];omega) (zau (by simp [-List.getD_eq_getElem?_getD])))))) (fun y hy=>?_))
 subst hy
 refine ziZ y.Looks.length (by omega) (fun i s=>s=(zeT y known t y.Looks).take i++y.Looks.drop i) (by simp [-List.getD_eq_getElem?_getD]) (fun i s K hi hI hK=>?_)
 have hlen:s.length=y.Looks.length:=by rw [hI,List.length_append,List.length_take,List.length_drop,zdb];omega
 by_cases hin:i<y.Looks.length
 · refine zcN (by simp only;rw [decide_eq_true_eq,hlen];omega) (zan (by simp only;omega) ?_)
   simp only [Int.toNat_natCast]
   have hg:s.getD i default=y.Looks.getD i default:=by
    rw [hI,zeI,List.length_take,zdb,if_neg (by omega),getD_drop]
    congr 1;omega
   rw [hg]
   refine zax (zp7 V h hf _ _ _) (zan (by omega) (zag (by omega) (hK _ hin ?_)))
   rw [zb3 (by rw [zdb];exact hin),zh2 hin]
   refine zqj (by rw [List.length_set,hlen];simp only [List.length_append,List.length_take,List.length_drop,List.length_cons,List.length_nil,zdb];omega) (fun j hj=>?_)
   rw [List.length_set] at hj
   rw [zhD _ _ _ _ _ (by omega),List.append_assoc,zeI,List.length_take,zdb]
   by_cases e1:j=i
   · rw [if_pos e1,if_neg (by omega),e1,zeI]
     rw [if_pos (by simp only [List.length_cons,List.length_nil];omega)]
     rw [show i - min i y.Looks.length=0 by omega]
     rfl
   · rw [if_neg e1,hI,zeI,List.length_take,zdb]
     by_cases e2:j<min i y.Looks.length
     · rw [if_pos e2,if_pos e2]
     · rw [if_neg e2,if_neg e2,zeI,List.length_cons,List.length_nil,if_neg (by omega),getD_drop,getD_drop]
       congr 1;omega
 · have:i=y.Looks.length:=by omega
   subst this
   refine zaP (by simp only;rw [decide_eq_false_iff_not,hlen];omega) (zau ?_)
   have e1:(zeT y known t y.Looks).take y.Looks.length=zeT y known t y.Looks:=List.take_of_length_le (by rw [zdb];exact Nat.le_refl _)
   simp only
   rw [hI,e1,List.drop_length,List.append_nil]
   rfl
end Go.Sp
end
/- Plain laws, mantle: from night to night; MantleNights. No program in sight. -/
section
set_option linter.all false
namespace Go.Sp
open Go.Av
set_option maxRecDepth 100000
theorem zeS {w:Wear} {known:Int} {S:Nat→List mantle_sight} {m:Nat} {night:Int}:(stateR w known S m night=0∧¬ zdD w known S m night true)∨(stateR w known S m night=1∧zdD w known S m night true∧¬ zdD w known S m night false)∨(stateR w known S m night=2∧zdD w known S m night true∧zdD w known S m night false):=by
 by_cases h1:zdD w known S m night true
 · by_cases h2:zdD w known S m night false
   · exact .inr (.inr ⟨zkx h1 h2,h1,h2⟩)
   · exact .inr (.inl ⟨zky h1 h2,h1,h2⟩)
 · exact .inl ⟨zkz h1,h1⟩
end Go.Sp
end
/- Plain laws, mantle: lots. No program in sight. -/
section
set_option linter.all false
namespace Go.Sp
open Go.Av
set_option maxRecDepth 100000
structure LotOk (w:Wear) (P:List Int) (night known:Int):Prop where
 len:1≤P.length∧P.length≤20
 lamp:∀ i,i<P.length→1≤P.getD i default∧P.getD i default≤999
 ris:∀ i,0<i→i<P.length→P.getD (i - 1) default<P.getD i default
 nOk:zaU night
 kOk:zaU known
 fits:∀ i,i<P.length→0≤fit w (P.getD i default) night known
theorem zp6 {w:Wear} {P:List Int} {night known:Int} (h:LotOk w P night known):zeg P=some true:=by
 have hl:=h.len
 unfold zeg
 refine Wp.eq (zhp (fun _=>True) (fun i K hi _ hK=>?_) (fun _=>zau ?_))
 · refine zan (fun _=>by unfold inI;omega) (zan (fun h=>by simp [-List.getD_eq_getElem?_getD] at h;omega) (zaP ?_ (hK trivial)))
   have e:(((i:Int) - 1)).toNat=i - 1:=by omega
   rw [e]
   have h1:=h.lamp i hi
   have h2:=h.ris i
   have e1:zaI (P.getD i default)=true:=by
    unfold zaI zaC
    rw [Bool.and_eq_true,decide_eq_true_eq,decide_eq_true_eq];exact h1
   rw [e1]
   simp only [Bool.not_true,Bool.false_or,Bool.and_eq_false_iff,decide_eq_false_iff_not]
   by_cases h0:0<i
   · have:=h2 h0 hi
     exact .inr (by omega)
   · exact .inl (by omega)
 · unfold zaC
   rw [Bool.and_eq_true,decide_eq_true_eq,decide_eq_true_eq];omega
def lotM (w:Wear) (P:List Int) (night known:Int):List Int:=P.map (fun l=>fit w l night known)
structure LotV (w:Wear) (P:List Int) (night known:Int) (x:mantle_lot):Prop where
 hung:Hung w known (allS w known) x.closet
 lamps:x.lamps=P
 mantles:x.mantles=lotM w P night known
 night:x.night=night
theorem znn {w:Wear} {P:List Int} {night known:Int} {i:Nat} (hi:i<P.length):(lotM w P night known).getD i default=fit w (P.getD i default) night known:=by
 unfold lotM
 rw [List.getD_eq_getElem?_getD,List.getElem?_map,List.getElem?_eq_getElem hi,List.getD_eq_getElem?_getD,List.getElem?_eq_getElem hi];rfl
theorem zp3 {w:Wear} (V:WearOk w) {fuel:Nat} (hf:1000≤fuel) {P:List Int} {night known many:Int} (h:LotOk w P night known) (hm:0≤many∧many≤20):Wp (zef fuel w P night known many) (fun r=>r.2=0∧LotV w P night known r.1):=by
 have hl:=h.len
 unfold zef
 refine zax (zhA V) (zaP (by simp [-List.getD_eq_getElem?_getD]) (zaP ?_ (zax (zp6 h) (zaP (by simp [-List.getD_eq_getElem?_getD]) (zaP ?_ ?_)))))
 · unfold zaC
   simp only [Bool.not_eq_false',Bool.and_eq_true,decide_eq_true_eq];omega
 · rw [zfE.2 h.nOk,zfE.2 h.kOk];rfl
 refine wp_bind (zo3 V hf (zjm V).1 (zjm V).2 known) (fun c hc=>?_)
 refine zbj (fun i s=>s=(lotM w P night known).take i) rfl (fun i s K hi hI hK=>?_) (fun s hs=>zau ⟨rfl,hc,rfl,?_,rfl⟩)
 · have hi':i<(lotM w P night known).length:=by unfold lotM;rw [List.length_map];exact hi
   refine zax (zhF w _ _ _) ?_
   have:=h.fits i hi
   refine zbt (fun h2=>by omega) (fun _=>za5 (by rw [hI];simp [-List.getD_eq_getElem?_getD];omega) (hK _ ?_))
   rw [zb3 hi',znn hi,hI]
 · simp only
   rw [hs]
   exact List.take_of_length_le (by unfold lotM;rw [List.length_map];exact Nat.le_refl _)
theorem zg3 {w:Wear} (V:WearOk w) {fuel:Nat} (hf:1000≤fuel) {P:List Int} {night known many:Int} (h:LotOk w P night known) (hm:0≤many∧many≤20) (hs:zcj w known (allS w known)):Wp (zbK fuel w P night known many) (fun r=>r.2=0∧LotV w P night known r.1):=by
 unfold zbK
 refine wp_bind (zp3 V hf h hm) (fun y hy=>?_)
 obtain ⟨h1,h2⟩:=hy
 rw [h1]
 obtain ⟨b,e,hb⟩:=zid h2.hung
 refine zln (by simp [-List.getD_eq_getElem?_getD]) e ?_
 rw [hb.2 hs]
 exact zaP (by simp [-List.getD_eq_getElem?_getD]) (zau ⟨rfl,h2⟩)
theorem zlK (P:Nat→Bool) (n:Nat):0≤zaL P (fun _=>1) n∧zaL P (fun _=>1) n≤(n:Int):=by
 have:=zea (P:=P) (f:=fun _=>(1:Int)) (c:=1) (by decide) (n:=n) (fun i _=>by decide)
 omega
def lot5 (w:Wear) (night known:Int):List Int:=([1,2,3,4,5]:List Int).filter (fun l=>decide (0≤fit w l night known))
theorem zpT {w:Wear} (V:WearOk w) {fuel:Nat} (hf:1000≤fuel) (night known:Int):zcg fuel w night known=some (lot5 w night known):=by
 have nm:=V.nm
 unfold zcg
 refine Wp.eq (wp_loop (fun s=>∃ i:Nat,s.1=(i:Int)+1∧i≤5∧s.2=(([1,2,3,4,5]:List Int).take i).filter (fun l=>decide (0≤fit w l night known))) (fun s=>10 - s.1.toNat) (by simp only;omega) ⟨0,rfl,by omega,rfl⟩ (fun s K hI hK=>?_))
 obtain ⟨x,s⟩:=s
 obtain ⟨i,h1,h2,h3⟩:=hI
 simp only at h1 h3 hK ⊢
 subst h1
 have hl:s.length≤5:=by rw [h3];exact Nat.le_trans (List.length_filter_le _ _) (by rw [List.length_take];simp [-List.getD_eq_getElem?_getD];omega)
 by_cases hi:i<5
 · refine zcN (by simp [-List.getD_eq_getElem?_getD];omega) (zax (at_eq (by omega) nm _ _ _) ?_)
   rw [atR_2]
   have hg:([1,2,3,4,5]:List Int).getD i default=(i:Int)+1:=by
    match i,hi with
    | 0,_=>rfl
    | 1,_=>rfl
    | 2,_=>rfl
    | 3,_=>rfl
    | 4,_=>rfl
   have hts:([1,2,3,4,5]:List Int).take (i+1)=([1,2,3,4,5]:List Int).take i++[(i:Int)+1]:=by
    rw [zb3 (by simp [-List.getD_eq_getElem?_getD];omega),hg]
   refine zbt (fun h=>za5 (by simp [-List.getD_eq_getElem?_getD];omega) (zag (by omega) (hK _ ⟨i+1,by simp [-List.getD_eq_getElem?_getD],by omega,?_⟩ (by simp only;omega)))) (fun h=>zag (by omega) (hK _ ⟨i+1,by simp [-List.getD_eq_getElem?_getD],by omega,?_⟩ (by simp only;omega)))
   · simp only
     rw [hts,List.filter_append,h3,List.filter_cons_of_pos (p:=fun l:Int=>decide (0≤fit w l night known)) (decide_eq_true h),List.filter_nil]
   · simp only
     rw [hts,List.filter_append,h3,List.filter_cons_of_neg (p:=fun l:Int=>decide (0≤fit w l night known)) (by rw [decide_eq_true_eq];exact h),List.filter_nil,List.append_nil]
 · have:i=5:=by omega
   subst this
   exact zaP (by simp [-List.getD_eq_getElem?_getD]) (zau h3)
theorem zq3 {w:Wear} {night known:Int} (h0:(lot5 w night known).length≠0) (hn:zaU night) (hk:zaU known):LotOk w (lot5 w night known) night known:=by
 have hm:∀ x∈lot5 w night known,(1≤x∧x≤5)∧0≤fit w x night known:=fun x hx=>by
  obtain ⟨h1,h2⟩:=List.mem_filter.1 hx
  refine ⟨?_,of_decide_eq_true h2⟩
  simp only [List.mem_cons,List.not_mem_nil,or_false] at h1
  omega
 have hs:(lot5 w night known).Pairwise (· < ·):=List.Pairwise.sublist List.filter_sublist (by decide)
 have hlen:(lot5 w night known).length≤5:=Nat.le_trans (List.length_filter_le _ _) (by simp [-List.getD_eq_getElem?_getD])
 refine ⟨by omega,fun i hi=>?_,fun i h0 hi=>zkJ hs (by omega) hi,hn,hk,fun i hi=>(hm _ (zbq hi)).2⟩
 have:=(hm _ (zbq hi)).1
 omega
end Go.Sp
end
/- Plain laws, mantle: lives and minutes against the closet: CheckTrue, Worn. No program in sight. -/
section
set_option linter.all false
namespace Go.Sp
open Go.Av
set_option maxRecDepth 100000
def RightS (w:Wear) (known:Int) (t:Lives) (S:Nat→List mantle_sight):Prop:=∀ m:Nat,m<w.Mantles.length→∀ s∈S m,s.bad=tBad w known t m s.night
theorem zc2 {T:Type} (p:T→Bool) (l:List T) (x:T):(l++[x]).filter p=if p x=true then l.filter p++[x] else l.filter p:=by
 rw [List.filter_append]
 by_cases h:p x=true
 · rw [if_pos h,List.filter_cons_of_pos h,List.filter_nil]
 · rw [if_neg h,List.filter_cons_of_neg h,List.filter_nil,List.append_nil]
end Go.Sp
end
/- Plain laws, mantle: minutes with which a coat's looks are right. No program in sight. -/
section
set_option linter.all false
namespace Go.Sp
open Go.Av
set_option maxRecDepth 100000
def ofM (w:Wear) (known:Int) (m j:Nat):Prop:=tell w known j=true∧fit w (bn w j).Lamp (bn w j).Night known=(m:Int)
def ageT (w:Wear) (known:Int) (T:List Int) (m f n:Int):Int:=zaL (zfl w known m f n) (fun i=>T.getD i default) w.Burns.length
structure MinOk (w:Wear) (known:Int) (m:Nat) (g b life:Int) (T T':List Int):Prop where
 len:T'.length=T.length
 other:∀ j:Nat,j<w.Burns.length→¬ ofM w known m j→T'.getD j default=T.getD j default
 mins:∀ j:Nat,j<w.Burns.length→ofM w known m j→(bn w j).Minutes.Lo≤T'.getD j default∧T'.getD j default≤(bn w j).Minutes.Hi
 good:g ≠ -1→ageT w known T' m (-1) g≤life
 bad:b ≠ -1→life<ageT w known T' m (-1) b
structure MinAt (w:Wear) (g b room0:Int) (B:List Int) (i:Nat) (T:List Int) (r:Int) (s:List Int):Prop where
 len:s.length=T.length
 other:∀ j:Nat,j<w.Burns.length→(j:Int) ∉ B→s.getD j default=T.getD j default
 rest:∀ j:Nat,j<w.Burns.length→(j:Int)∈B→(j:Int) ∉ B.take i→s.getD j default=(bn w j).Minutes.Lo
 mins:∀ j:Nat,j<w.Burns.length→(j:Int)∈B→(bn w j).Minutes.Lo≤s.getD j default∧s.getD j default≤(bn w j).Minutes.Hi
 top:∀ j:Nat,j<w.Burns.length→(j:Int)∈B.take i→(bn w j).Night≤b→(g = -1∨g<(bn w j).Night)→s.getD j default=(bn w j).Minutes.Hi
 room:g ≠ -1→0≤r
 sum:g ≠ -1→lsum (fun x=>if (bn w x.toNat).Night≤g then s.getD x.toNat default - (bn w x.toNat).Minutes.Lo else 0) (B.take i)+r=room0
 full:g ≠ -1→r=0∨∀ j:Nat,j<w.Burns.length→(j:Int)∈B.take i→(bn w j).Night≤g→s.getD j default=(bn w j).Minutes.Hi
end Go.Sp
end
/- Plain laws, mantle: what becomes known later does not matter. No program in sight. -/
section
set_option linter.all false
namespace Go.Sp
open Go.Av
set_option maxRecDepth 100000
end Go.Sp
end
/- Plain laws, mantle: MantleKnown. No program in sight. -/
section
set_option linter.all false
namespace Go.Sp
open Go.Av
set_option maxRecDepth 100000
end Go.Sp
end
/- Plain laws, mantle: two looks; MantleTwo. No program in sight. -/
section
set_option linter.all false
namespace Go.Sp
open Go.Av
set_option maxRecDepth 100000
theorem zmp {w:Wear} {known:Int} {L:List Look} {m:Nat} {s:mantle_sight}:s∈sights w known L m↔∃ l∈L,fit w l.Lamp l.Night known=(m:Int)∧zap l.Known l.Until known=true∧s=toS l:=by
 rw [zkC,List.mem_map]
 constructor
 · rintro ⟨l,hl,e⟩
   obtain ⟨h1,h2⟩:=List.mem_filter.1 hl
   unfold zlv at h2
   rw [Bool.and_eq_true,decide_eq_true_eq] at h2
   exact ⟨l,h1,h2.1,h2.2,e.symm⟩
 · rintro ⟨l,hl,h1,h2,e⟩
   exact ⟨l,List.mem_filter.2 ⟨hl,by unfold zlv;rw [Bool.and_eq_true,decide_eq_true_eq];exact ⟨h1,h2⟩⟩,e.symm⟩
end Go.Sp
end
/- Plain laws, mantle: one look more; MantleLooked. No program in sight. -/
section
set_option linter.all false
namespace Go.Sp
open Go.Av
set_option maxRecDepth 100000
theorem zpv {w:Wear} {known:Int} {S S':Nat→List mantle_sight} (hs:∀ m,∀ s∈S m,s∈S' m) {m:Nat} {night:Int} {bad:Bool} (h:zdD w known S' m night bad):zdD w known S m night bad:=by
 obtain ⟨x,⟨h1,h2⟩,h3⟩:=h
 refine ⟨x,⟨h1,fun i hi hb=>(h2 i hi hb).mono (hs i)⟩,h3.mono (fun s hm=>?_)⟩
 rcases List.mem_append.1 hm with hm|hm
 · exact List.mem_append.2 (.inl (hs m s hm))
 · exact List.mem_append.2 (.inr hm)
structure MoreL (w:Wear) (known:Int) (t:Lives) (L:List Look):Prop where
 ok:WearOk w
 tr:TrueT w t
 right:zkq w known t w.Looks
 ok2:WearOk (zgZ w L)
 right2:zkq (zgZ w L) known t L
 sub:∀ l∈w.Looks,l∈L
theorem zlp {P Q:Nat→Bool} {n:Nat} (h:∀ i,i<n→P i=true→Q i=true):zaL P (fun _=>1) n≤zaL Q (fun _=>1) n:=zf1 (fun _ _=>by decide) h
end Go.Sp
end
/- Plain laws, mantle: Attain; MantleWhatever. No program in sight. -/
section
set_option linter.all false
namespace Go.Sp
open Go.Av
set_option maxRecDepth 100000
theorem zlJ (l:List Int) (x:Int):Wp (zb4 l x) (fun b=>b=true↔x∈l):=by
 unfold zb4 zdq
 refine wp_bind (Q:=fun i=>0≤i↔x∈l) (zhp (fun i=>l.getD i default≠x) (fun i K hi _ hK=>zbt (fun h=>zau ⟨fun _=>h▸zbq hi,fun _=>by omega⟩) (fun h=>hK (fun e=>h e.symm))) (fun h=>zau ⟨fun h0=>by omega,fun hx=>?_⟩)) (fun i hi=>zau (by rw [decide_eq_true_eq];exact hi))
 obtain ⟨i,hi,e⟩:=zds hx
 exact absurd e (h i hi)
structure Edge (w:Wear) (known:Int) (high:Bool) (L:List Int):Prop where
 len:L.length=w.Batches.length
 mem:∀ b,b<w.Batches.length→zca w known (allS w known) b (L.getD b default)
 lo:high=true→∀ b,b<w.Batches.length→∀ x,zca w known (allS w known) b x→L.getD b default≤x
 hi:high=false→∀ b,b<w.Batches.length→∀ x,zca w known (allS w known) b x→x≤L.getD b default
theorem zgN {w:Wear} (V:WearOk w) {known:Int} {S:Nat→List mantle_sight} {i:Nat} (hi:i<w.Mantles.length) {x:Int} (h:zca w known S (bat w i).toNat x):OkBy w known i (S i) x:=h.2 i hi (by have:=zfq V hi;omega)
structure AttAt (w:Wear) (known:Int) (C:Nat→List mantle_sight) (L:List Int) (j:Nat) (T:List Int):Prop where
 len:T.length=w.Burns.length
 mins:∀ i,i<w.Burns.length→(bn w i).Minutes.Lo≤T.getD i default∧T.getD i default≤(bn w i).Minutes.Hi
 done:∀ i:Nat,i<j→∃ g b,Ends (C i) g b∧(g ≠ -1→ageT w known T i (-1) g≤L.getD (bat w i).toNat default)∧(b ≠ -1→L.getD (bat w i).toNat default<ageT w known T i (-1) b)
theorem AttAt.true {w:Wear} (V:WearOk w) {known:Int} {C:Nat→List mantle_sight} {L:List Int} {T:List Int} (hL:L.length=w.Batches.length) (hl:∀ b,b<w.Batches.length→inR (ba w b).Life (L.getD b default)) (h:AttAt w known C L w.Mantles.length T):TrueT w ⟨L,T⟩∧RightS w known ⟨L,T⟩ C:=by
 have ht:TrueT w ⟨L,T⟩:=⟨hL,hl,h.len,h.mins⟩
 refine ⟨ht,fun m hm s hs=>?_⟩
 obtain ⟨g,b,he,k2,k3⟩:=h.done m hm
 unfold tBad
 cases hb:s.bad with
 | false=>
  have h1:=he.top s hs hb
  have hg:g ≠ -1∨g = -1:=by omega
  have h2:=zi5 V ht (known:=known) (m:=(m:Int)) (f:=-1) h1
  symm
  rw [decide_eq_false_iff_not]
  rcases hg with hg|hg
  · have h3:tAge w known ⟨L,T⟩ m (-1) g≤L.getD (bat w m).toNat default:=k2 hg
    simp only;omega
  · have h3:tAge w known ⟨L,T⟩ m (-1) g≤0:=by
     rw [hg]
     have:tAge w known ⟨L,T⟩ m (-1) (-1)≤zdm w known m (-1) (-1):=zkw ht known m (-1) (-1)
     have h0:zdm w known m (-1) (-1)=zaL (fun _=>false) (fun i=>(bn w i).Minutes.Hi) w.Burns.length:=zeR (fun i _=>by
      unfold zfl
      have e:(decide (-1<(bn w i).Night) && decide ((bn w i).Night ≤ -1))=false:=by
       rw [Bool.and_eq_false_iff,decide_eq_false_iff_not,decide_eq_false_iff_not];omega
      rw [e,Bool.and_false])
     have h00:∀ n,zaL (fun _=>false) (fun i=>(bn w i).Minutes.Hi) n=0:=by
      intro n
      induction n with
      | zero=>rfl
      | succ n ih=>unfold zaL;rw [ih];rfl
     rw [h0,h00] at this
     exact this
    have h4:=zmA V (q:=(bat w m).toNat) (by have:=zfq V hm;omega) (hl (bat w m).toNat (by have:=zfq V hm;omega))
    simp only;omega
 | true=>
  have h1:=he.low s hs hb
  have h2:=zi5 V ht (known:=known) (m:=(m:Int)) (f:=-1) h1.2
  have h3:L.getD (bat w m).toNat default<tAge w known ⟨L,T⟩ m (-1) b:=k3 h1.1
  symm
  rw [decide_eq_true_eq]
  simp only;omega
end Go.Sp
end
/- Plain laws, mantle: a lot of which some are looked at. No program in sight. -/
section
set_option linter.all false
namespace Go.Sp
open Go.Av
set_option maxRecDepth 100000
structure LotS (w:Wear) (P:List Int) (night known:Int) (S:Nat→List mantle_sight) (x:mantle_lot):Prop where
 hung:Hung w known S x.closet
 lamps:x.lamps=P
 mantles:x.mantles=lotM w P night known
 night:x.night=night
theorem LotV.toS {w:Wear} {P:List Int} {night known:Int} {x:mantle_lot} (h:LotV w P night known x):LotS w P night known (allS w known) x:=⟨h.hung,h.lamps,h.mantles,h.night⟩
def mI (w:Wear) (P:List Int) (night known:Int) (i:Nat):Nat:=(fit w (P.getD i default) night known).toNat
theorem zkI {w:Wear} {P:List Int} {night known:Int} (h:LotOk w P night known) {i:Nat} (hi:i<P.length):fit w (P.getD i default) night known=(mI w P night known i:Int)∧mI w P night known i<w.Mantles.length:=by
 have h0:=h.fits i hi
 have hlt:=zpa w (P.getD i default) night known
 unfold mI
 omega
theorem mI_inj {w:Wear} {P:List Int} {night known:Int} (h:LotOk w P night known) {i j:Nat} (hi:i<P.length) (hj:j<P.length) (e:mI w P night known i=mI w P night known j):i=j:=by
 have h1:=(zny (zkI h hi).1).cand.1
 have h2:=(zny (zkI h hj).1).cand.1
 rw [e] at h1
 have h3:=h1.symm.trans h2
 have hs:=zqz h.ris
 rcases Nat.lt_trichotomy i j with k|k|k
 · have:=zkJ hs k hj;omega
 · exact k
 · have:=zkJ hs k hi;omega
theorem zh9 {w:Wear} {P:List Int} {night known:Int} (h:LotOk w P night known) {S:Nat→List mantle_sight} {x:mantle_lot} (hx:LotS w P night known S x) {i:Nat} (hi:i<P.length):x.mantles.getD i default=(mI w P night known i:Int):=by
 rw [hx.mantles,znn hi];exact (zkI h hi).1
theorem zh8 {w:Wear} {P:List Int} {night known:Int} {S:Nat→List mantle_sight} {x:mantle_lot} (hx:LotS w P night known S x):x.mantles.length=P.length:=by
 rw [hx.mantles];unfold lotM;rw [List.length_map]
def zcW (w:Wear) (P:List Int) (night known:Int) (S:Nat→List mantle_sight) (show_:Bool) (T:List Int) (m:Nat):List mantle_sight:=
 S m++(T.filter (fun i=>decide (mI w P night known i.toNat=m))).map (fun _=>⟨night,show_⟩)
theorem zoR {w:Wear} {P:List Int} {night known:Int} {S:Nat→List mantle_sight} {show_:Bool}:zcW w P night known S show_ []=S:=by
 funext m
 unfold zcW
 rw [List.filter_nil,List.map_nil,List.append_nil]
theorem zn0 {w:Wear} {P:List Int} {night known:Int} {S:Nat→List mantle_sight} {show_:Bool} {T:List Int} {q:Int}:zcW w P night known S show_ (T++[q])=fun m=>if m=mI w P night known q.toNat then zcW w P night known S show_ T m++[⟨night,show_⟩] else zcW w P night known S show_ T m:=by
 funext m
 unfold zcW
 rw [zc2]
 by_cases h:mI w P night known q.toNat=m
 · rw [if_pos (decide_eq_true h),if_pos h.symm,List.map_append,List.append_assoc];rfl
 · rw [if_neg (by rw [decide_eq_true_eq];exact h),if_neg (fun e=>h e.symm)]
theorem zoS {w:Wear} {P:List Int} {night known:Int} {S:Nat→List mantle_sight} {show_:Bool} {T:List Int} {m:Nat}:(zcW w P night known S show_ T m).length≤(S m).length+T.length:=by
 unfold zcW
 rw [List.length_append,List.length_map]
 have:=List.length_filter_le (fun i=>decide (mI w P night known i.toNat=m)) T
 omega
theorem zo1 {w:Wear} (V:WearOk w) {known:Int} {S:Nat→List mantle_sight} {c:mantle_closet} (h:Hung w known S c) {m:Nat} (hm:m<w.Mantles.length) {s:mantle_sight} (hs:0≤s.night) (hl:(S m).length<1000) {y:mantle_coat} (hy:CoatOk w known m (S m++[s]) y) {g b:Int} (he:Ends (S m++[s]) g b) :
 Hung w known (fun j=>if j=m then S j++[s] else S j) ⟨c.w,c.known,c.coats.set (m:Int) y,c.lives.set (bat w m).toNat (zaT (c.lives.getD (bat w m).toNat default) (zjp w known m g b))⟩:=by
 have hb:=zfq V hm
 have hns:∀ t∈S m++[s],0≤t.night:=fun t ht=>by
  rcases List.mem_append.1 ht with ht|ht
  · exact h.nights m hm t ht
  · rw [List.mem_singleton] at ht;rw [ht];exact hs
 refine ⟨h.wear,h.asof,fun i hi=>?_,by simp only [List.length_set];exact h.len,fun q hq x=>?_,fun i hi t ht=>?_,fun i hi=>?_⟩
 · simp only
   rw [Mp.zeq]
   by_cases e:i=m
   · subst e
     rw [if_pos rfl,if_pos rfl]
     exact ⟨y,rfl,hy⟩
   · rw [if_neg (by omega),if_neg e]
     exact h.coats i hi
 · simp only
   rw [zhD _ _ _ _ _ (by rw [h.len];omega)]
   have hlm:=zjo V hns he x (known:=known) (m:=(m:Int))
   by_cases e:q=(bat w m).toNat
   · rw [if_pos e,zlg,← e,h.lives q hq,hlm]
     constructor
     · rintro ⟨⟨a1,a2⟩,a3⟩
       refine ⟨a1,fun i hi hbi=>?_⟩
       by_cases ei:i=m
       · subst ei;rw [if_pos rfl];exact a3
       · rw [if_neg ei];exact a2 i hi hbi
     · rintro ⟨a1,a2⟩
       refine ⟨⟨a1,fun i hi hbi=>?_⟩,?_⟩
       · have:=a2 i hi hbi
         by_cases ei:i=m
         · subst ei
           rw [if_pos rfl] at this
           exact this.mono (fun t ht=>List.mem_append.2 (.inl ht))
         · rw [if_neg ei] at this;exact this
       · have:=a2 m hm (by omega)
         rw [if_pos rfl] at this
         exact this
   · rw [if_neg e,h.lives q hq]
     constructor
     · rintro ⟨a1,a2⟩
       refine ⟨a1,fun i hi hbi=>?_⟩
       rw [if_neg (fun ei=>e (by subst ei;omega))]
       exact a2 i hi hbi
     · rintro ⟨a1,a2⟩
       refine ⟨a1,fun i hi hbi=>?_⟩
       have:=a2 i hi hbi
       rw [if_neg (fun ei=>e (by subst ei;omega))] at this
       exact this
 · by_cases ei:i=m
   · subst ei
     rw [if_pos rfl] at ht
     exact hns t ht
   · rw [if_neg ei] at ht
     exact h.nights i hi t ht
 · by_cases ei:i=m
   · subst ei
     rw [if_pos rfl,List.length_append]
     simp only [List.length_cons,List.length_nil]
     omega
   · rw [if_neg ei];exact h.few i hi
def InP (P T:List Int):Prop:=∀ q∈T,0≤q∧q<(P.length:Int)
theorem zmd (w:Wear) {c:mantle_closet} (h:c.w=w) {m:Nat} (hm:m<w.Mantles.length):zaW c (m:Int)=some (bat w m):=by
 unfold zaW
 rw [h,zd5 (by omega)]
 exact Wp.eq (zax (zgM w _) (zau rfl))
theorem znV {c:mantle_closet} {b:Nat} (hb:b<c.lives.length) (r:Range):zbe c (b:Int) r=some ⟨c.w,c.known,c.coats,c.lives.set b (zaT (c.lives.getD b default) r)⟩:=by
 unfold zbe
 rw [zd5 (by omega),zd5 (by omega)]
 rfl
theorem zjn {w:Wear} (V:WearOk w) {P:List Int} {night known:Int} (hP:LotOk w P night known) {S:Nat→List mantle_sight} {x:mantle_lot} (hx:LotS w P night known S x) (hf:∀ m,m<w.Mantles.length→(S m).length≤100) {T:List Int} (hT:InP P T) (hl:T.length≤100) (show_:Bool) :
 Wp (zbn x T show_) (LotS w P night known (zcW w P night known S show_ T)):=by
 unfold zbn zbP
 have nb:=V.nb
 have hu:=hx.hung
 refine wp_bind (Q:=fun y=>y=x.closet.lives) (za5 (by rw [List.nil_append,hu.len];omega) (zau (by rw [List.nil_append]))) (fun y4 h4=>?_)
 subst h4
 refine zbj (fun i s=>Hung w known (zcW w P night known S show_ (T.take i)) ⟨x.closet.w,x.closet.known,s.2,s.1⟩) ?_ (fun i s K hi hI hK=>?_) (fun s hs=>zau ?_)
 · rw [List.take_zero,zoR]
   exact ⟨hu.wear,hu.asof,hu.coats,hu.len,hu.lives,hu.nights,hu.few⟩
 · obtain ⟨s1,s2⟩:=s
   simp only at hI hK ⊢
   have hq:=hT _ (zbq hi)
   obtain ⟨q,eq⟩:∃ q:Nat,T.getD i default=(q:Int):=⟨_,(Int.toNat_of_nonneg hq.1).symm⟩
   rw [eq] at hq
   have hq':q<P.length:=by omega
   have hm:=(zkI hP hq').2
   rw [eq,Int.toNat_natCast,zh9 hP hx hq',zh8 hx,hx.night]
   obtain ⟨z,ez,hz⟩:=hI.coats _ hm
   simp only at ez
   rw [ez,Option.getD_some]
   have hlen:(zcW w P night known S show_ (T.take i) (mI w P night known q)).length≤200:=by
    have h1:=zoS (w:=w) (P:=P) (night:=night) (known:=known) (S:=S) (show_:=show_) (T:=T.take i) (m:=mI w P night known q)
    have h2:=hf _ hm
    rw [List.length_take] at h1
    omega
   refine zan (by omega) (wp_bind (zmk hz _ (by omega)) (fun y hy=>?_))
   have hns:∀ t∈zcW w P night known S show_ (T.take i) (mI w P night known q)++[(⟨night,show_⟩:mantle_sight)],0≤t.night:=fun t ht=>by
    rcases List.mem_append.1 ht with ht|ht
    · exact hI.nights _ hm t ht
    · rw [List.mem_singleton] at ht;rw [ht];exact hP.nOk.1
   obtain ⟨g,b,he⟩:=zjB _ hns
   have hb:=zfq V hm
   obtain ⟨k,hk⟩:∃ k:Nat,bat w (mI w P night known q)=(k:Int):=⟨_,(Int.toNat_of_nonneg hb.1).symm⟩
   have hH:=zo1 V hI hm hP.nOk.1 (by omega) hy he
   rw [hk] at hb
   rw [hk,Int.toNat_natCast] at hH
   refine zax (zmd w hu.wear hm) ?_
   rw [Mp.zeq,if_pos rfl,Option.getD_some,hk]
   refine zax (zkK V hy hns he) (zax (znV (by have:=hI.len;simp only at this ⊢;omega) _) (zan (by simp only [List.length_set]) (hK _ ?_)))
   rw [zb3 hi,eq,zn0,Int.toNat_natCast]
   exact hH
 · rw [List.take_length] at hs
   exact ⟨hs,hx.lamps,hx.mantles,hx.night⟩
noncomputable def stI (w:Wear) (P:List Int) (night known:Int) (S:Nat→List mantle_sight) (i:Nat):Int:=stateR w known S (mI w P night known i) night
theorem zm3 {w:Wear} (V:WearOk w) {P:List Int} {night known:Int} (hP:LotOk w P night known) {S:Nat→List mantle_sight} {x:mantle_lot} (hx:LotS w P night known S x) {i:Nat} (hi:i<P.length):zaS x.closet (mI w P night known i:Int) night=some (stI w P night known S i):=zm2 V hx.hung (zkI hP hi).2 hP.nOk.1
theorem zjf {w:Wear} (V:WearOk w) {P:List Int} {night known:Int} (hP:LotOk w P night known) {S:Nat→List mantle_sight} {x:mantle_lot} (hx:LotS w P night known S x):za8 x=some ⟨zaL (fun i=>decide (stI w P night known S i=1)) (fun _=>1) P.length,zaL (fun i=>!decide (stI w P night known S i=0)) (fun _=>1) P.length⟩:=by
 have hl:=hP.len
 unfold za8
 rw [hx.night,zh8 hx]
 refine Wp.eq (zbj (fun i s=>s=⟨zaL (fun i=>decide (stI w P night known S i=1)) (fun _=>1) i,zaL (fun i=>!decide (stI w P night known S i=0)) (fun _=>1) i⟩) rfl (fun i s K hi hI hK=>?_) (fun s hs=>zau hs))
 subst hI
 rw [zh9 hP hx hi]
 refine zax (zm3 V hP hx hi) ?_
 have b1:=zlK (fun i=>decide (stI w P night known S i=1)) i
 have b2:=zlK (fun i=>!decide (stI w P night known S i=0)) i
 have c:=zeS (w:=w) (known:=known) (S:=S) (m:=mI w P night known i) (night:=night)
 have e1:∀ Q:Nat→Bool,zaL Q (fun _=>1) (i+1)=zaL Q (fun _=>1) i+(if Q i=true then 1 else 0):=fun Q=>rfl
 refine zbt (fun s1=>zag (by simp only;omega) (zag (by simp only;omega) (hK _ ?_))) (fun s1=>zbt (fun s2=>zag (by simp only;omega) (hK _ ?_)) (fun s2=>hK _ ?_))
 · rw [e1,e1,s1];rfl
 · rw [e1,e1,s2];simp [-List.getD_eq_getElem?_getD]
 · have s0:stI w P night known S i=0:=by
    rcases c with ⟨s,_⟩|⟨s,_⟩|⟨s,_⟩
    · exact s
    · exact absurd s s1
    · exact absurd s s2
   rw [e1,e1,s0];simp [-List.getD_eq_getElem?_getD]
noncomputable def dbtN (w:Wear) (P:List Int) (night known:Int) (S:Nat→List mantle_sight) (n:Nat):List Int:=((List.range n).filter (fun i=>decide (stI w P night known S i=2))).map (fun i:Nat=>(i:Int))
theorem zhK {w:Wear} {P:List Int} {night known:Int} {S:Nat→List mantle_sight} {n:Nat}:dbtN w P night known S (n+1)=if stI w P night known S n=2 then dbtN w P night known S n++[(n:Int)] else dbtN w P night known S n:=by
 unfold dbtN
 rw [List.range_succ,zc2]
 by_cases h:stI w P night known S n=2
 · rw [if_pos (decide_eq_true h),if_pos h,List.map_append];rfl
 · rw [if_neg (by rw [decide_eq_true_eq];exact h),if_neg h]
theorem zgL {w:Wear} {P:List Int} {night known:Int} {S:Nat→List mantle_sight} {n:Nat}:(dbtN w P night known S n).length≤n:=by
 unfold dbtN
 rw [List.length_map]
 exact Nat.le_trans (List.length_filter_le _ _) (by simp [-List.getD_eq_getElem?_getD])
theorem zfJ {w:Wear} {P:List Int} {night known:Int} {S:Nat→List mantle_sight} {n:Nat} {x:Int}:x∈dbtN w P night known S n↔∃ i:Nat,i<n∧stI w P night known S i=2∧x=(i:Int):=by
 unfold dbtN
 rw [List.mem_map]
 constructor
 · rintro ⟨i,hi,e⟩
   obtain ⟨h1,h2⟩:=List.mem_filter.1 hi
   exact ⟨i,List.mem_range.1 h1,of_decide_eq_true h2,e.symm⟩
 · rintro ⟨i,h1,h2,e⟩
   exact ⟨i,List.mem_filter.2 ⟨List.mem_range.2 h1,decide_eq_true h2⟩,e.symm⟩
theorem zik {w:Wear} {P:List Int} {night known:Int} {S:Nat→List mantle_sight} {n:Nat}:(dbtN w P night known S n).Nodup:=by
 unfold dbtN
 exact zjg (List.Nodup.sublist List.filter_sublist List.nodup_range) (fun x _ y _ h=>by omega)
noncomputable def dbt (w:Wear) (P:List Int) (night known:Int) (S:Nat→List mantle_sight):List Int:=dbtN w P night known S P.length
theorem zhg {w:Wear} (V:WearOk w) {P:List Int} {night known:Int} (hP:LotOk w P night known) {S:Nat→List mantle_sight} {x:mantle_lot} (hx:LotS w P night known S x):za7 x=some (dbt w P night known S):=by
 have hl:=hP.len
 unfold za7
 rw [hx.night,zh8 hx]
 refine Wp.eq (zbj (fun i s=>s=dbtN w P night known S i) rfl (fun i s K hi hI hK=>?_) (fun s hs=>zau hs))
 subst hI
 rw [zh9 hP hx hi]
 have:=zgL (w:=w) (P:=P) (night:=night) (known:=known) (S:=S) (n:=i)
 refine zax (zm3 V hP hx hi) (zbt (fun h=>za5 (by rw [List.length_append,List.length_cons,List.length_nil];omega) (hK _ ?_)) (fun h=>hK _ ?_))
 · rw [zhK,if_pos h]
 · rw [zhK,if_neg h]
theorem zl8 {w:Wear} {P:List Int} {night known:Int} {S:Nat→List mantle_sight}:InP P (dbt w P night known S):=fun q hq=>by
 obtain ⟨i,hi,_,e⟩:=zfJ.1 hq
 omega
noncomputable def decB (w:Wear) (P:List Int) (night known:Int) (S:Nat→List mantle_sight) (show_:Bool) (T:List Int) (i:Int):Bool:=!decide (stI w P night known (zcW w P night known S show_ T) i.toNat=2)
noncomputable def dcd (w:Wear) (P:List Int) (night known:Int) (S:Nat→List mantle_sight) (show_:Bool) (T:List Int):Nat:=((dbt w P night known S).filter (decB w P night known S show_ T)).length
theorem zke {w:Wear} (V:WearOk w) {P:List Int} {night known:Int} (hP:LotOk w P night known) {S:Nat→List mantle_sight} {x:mantle_lot} (hx:LotS w P night known S x) (hf:∀ m,m<w.Mantles.length→(S m).length≤100) {T:List Int} (hT:InP P T) (hl:T.length≤100) (show_:Bool):za2 x T show_=some (dcd w P night known S show_ T:Int):=by
 have hl20:=hP.len
 unfold za2
 refine Wp.eq (wp_bind (zjn V hP hx hf hT hl show_) (fun y hy=>zax (zhg V hP hx) ?_))
 have hdl:=zgL (w:=w) (P:=P) (night:=night) (known:=known) (S:=S) (n:=P.length)
 have hdl':(dbt w P night known S).length≤P.length:=hdl
 refine zbj (fun i s=>s=((((dbt w P night known S).take i).filter (decB w P night known S show_ T)).length:Int)) rfl (fun i s K hi hI hK=>?_) (fun s hs=>zau (by rw [hs,List.take_length];rfl))
 subst hI
 have hq:=zl8 _ (zbq hi)
 obtain ⟨q,eq⟩:∃ q:Nat,(dbt w P night known S).getD i default=(q:Int):=⟨_,(Int.toNat_of_nonneg hq.1).symm⟩
 rw [eq] at hq
 have hq':q<P.length:=by omega
 rw [eq,Int.toNat_natCast,zh9 hP hx hq',zh8 hx,hx.night]
 have hfl:(((dbt w P night known S).take i).filter (decB w P night known S show_ T)).length≤20:=Nat.le_trans (List.length_filter_le _ _) (by rw [List.length_take];omega)
 have hts:((dbt w P night known S).take (i+1)).filter (decB w P night known S show_ T)=if decB w P night known S show_ T (q:Int)=true then ((dbt w P night known S).take i).filter (decB w P night known S show_ T)++[(q:Int)] else ((dbt w P night known S).take i).filter (decB w P night known S show_ T):=by
  rw [zb3 hi,eq,zc2]
 refine zan hq (zax (zm3 V hP hy hq') (zho (fun h=>zag (by omega) (hK _ ?_)) (fun h=>hK _ ?_)))
 · rw [hts,if_pos (by unfold decB;rw [Int.toNat_natCast,Bool.not_eq_true',decide_eq_false_iff_not];exact h),List.length_append];rfl
 · rw [hts,if_neg (by unfold decB;rw [Int.toNat_natCast,h];decide)]
end Go.Sp
end
/- Plain laws, mantle: what looks at some of a lot decide. No program in sight. -/
section
set_option linter.all false
namespace Go.Sp
open Go.Av
set_option maxRecDepth 100000
theorem ziT {w:Wear} {known m:Int} {S T:List mantle_sight} (h:∀ s,s∈S↔s∈T) {x:Int}:OkBy w known m S x↔OkBy w known m T x:=⟨fun k=>k.mono (fun s hs=>(h s).2 hs),fun k=>k.mono (fun s hs=>(h s).1 hs)⟩
theorem ok_or {w:Wear} (V:WearOk w) {known m:Int} {S:List mantle_sight} (hS:∀ s∈S,0≤s.night) {night x:Int} (hn:0≤night) (h:OkBy w known m S x):OkBy w known m (S++[⟨night,true⟩]) x∨OkBy w known m (S++[⟨night,false⟩]) x:=by
 obtain ⟨g,b,he⟩:=zjB S hS
 rw [zmR V hn hS he h,zld V hn he h]
 have h1:=zrb he h
 obtain ⟨e1,e2,e3⟩:=h1
 have hlohi:=znH V known m (-1) night
 have hg0:=he.g0
 by_cases c1:zfY w known m (-1) night≤x
 · by_cases c2:b ≠ -1→night<b∧0<zdm w known m night b
   · exact .inr ⟨c1,c2⟩
   · left
     have hb:b ≠ -1:=fun e=>c2 (fun k=>absurd e k)
     have c3:¬ (night<b∧0<zdm w known m night b):=fun k=>c2 (fun _=>k)
     have e2:=e2 hb
     by_cases c4:night<b
     · have c5:zdm w known m night b=0:=by
        have:=(zjI V known m night b).2.1
        by_cases c6:0<zdm w known m night b
        · exact absurd ⟨c4,c6⟩ c3
        · omega
       have s1:=zjJ (w:=w) (known:=known) (m:=m) (a:=-1) (b:=night) (c:=b) (by omega) (by omega)
       have hgn:g<night:=by
        by_cases hg:g = -1
        · omega
        · have e3:=e3 hg hb
          rcases Int.lt_or_le g night with k|k
          · exact k
          · have:=zdI V (known:=known) (m:=m) (f:=g) (f':=night) (t:=b) (t':=b) (Int.le_refl _) k
            omega
       refine ⟨hgn,by omega,fun hg=>?_⟩
       have e3:=e3 hg hb
       have s2:=zjJ (w:=w) (known:=known) (m:=m) (a:=g) (b:=night) (c:=b) (by omega) (by omega)
       omega
     · have s1:=zdI V (known:=known) (m:=m) (f:=-1) (f':=-1) (t:=b) (t':=night) (by omega) (Int.le_refl _)
       refine ⟨?_,by omega,fun hg=>?_⟩
       · by_cases hg:g = -1
         · omega
         · have e3:=e3 hg hb;omega
       · have e3:=e3 hg hb
         have s2:=zdI V (known:=known) (m:=m) (f:=g) (f':=g) (t:=b) (t':=night) (by omega) (Int.le_refl _)
         omega
 · left
   have hgn:g<night:=by
    rcases Int.lt_or_le g night with k|k
    · exact k
    · have:=zkm V (known:=known) (m:=m) (f:=-1) k
      have:=e1 (by omega)
      omega
   refine ⟨hgn,by omega,fun hg=>?_⟩
   have e1:=e1 hg
   have s1:zfY w known m (-1) night=zfY w known m (-1) g+zfY w known m g night:=by
    refine zdW (fun i hi=>?_) (fun i hi h=>?_)
    · rw [Bool.eq_iff_iff]
      simp only [zfl,Bool.or_eq_true,Bool.and_eq_true,decide_eq_true_eq]
      constructor
      · rintro ⟨h3,h4,h5⟩
        rcases Int.lt_or_le g (bn w i).Night with h|h
        · exact .inr ⟨h3,h,h5⟩
        · exact .inl ⟨h3,h4,h⟩
      · rintro (⟨h3,h4,h5⟩|⟨h3,h4,h5⟩)
        · exact ⟨h3,h4,by omega⟩
        · exact ⟨h3,by omega,h5⟩
    · simp only [zfl,Bool.and_eq_true,decide_eq_true_eq] at h
      omega
   have s2:=znH V known m g night
   omega
def sg (show_:Bool) (x:Int):Int:=if show_=true then x else -x
def Cut (w:Wear) (known:Int) (S:Nat→List mantle_sight) (night:Int) (show_:Bool) (k:Nat→Int):Prop:=
 ∀ m,m<w.Mantles.length→zdD w known S m night show_→∀ x,zca w known S (bat w m).toNat x→(OkBy w known m (S m++[⟨night,show_⟩]) x↔sg show_ x<k m)
theorem cut_ex {w:Wear} (V:WearOk w) {known:Int} {S:Nat→List mantle_sight} (hS:∀ m,m<w.Mantles.length→∀ s∈S m,0≤s.night) {night:Int} (hn:0≤night) (show_:Bool):∃ k,Cut w known S night show_ k:=by
 have h:∀ m:Nat,∃ k:Int,m<w.Mantles.length→zdD w known S m night show_→∀ x,zca w known S (bat w m).toNat x→(OkBy w known m (S m++[⟨night,show_⟩]) x↔sg show_ x<k):=by
  intro m
  by_cases hm:m<w.Mantles.length
  · by_cases hc:zdD w known S m night show_
    · obtain ⟨g,b,he⟩:=zjB (S m) (hS m hm)
      have hc2:=(zeL V hm).1 hc
      obtain ⟨y,y1,y2⟩:=hc2
      cases show_ with
      | true=>
       have k1:=(zmR V hn (hS m hm) he (zgN V hm y1)).1 y2
       refine ⟨zdm w known m (-1) night,fun _ _ x hx=>?_⟩
       rw [zmR V hn (hS m hm) he (zgN V hm hx)]
       unfold sg
       rw [if_pos rfl]
       exact ⟨fun h=>h.2.1,fun h=>⟨k1.1,h,k1.2.2⟩⟩
      | false=>
       have k1:=(zld V hn he (zgN V hm y1)).1 y2
       refine ⟨1 - zfY w known m (-1) night,fun _ _ x hx=>?_⟩
       rw [zld V hn he (zgN V hm hx)]
       unfold sg
       rw [if_neg (by decide)]
       exact ⟨fun h=>by omega,fun h=>⟨by omega,k1.2⟩⟩
    · exact ⟨0,fun _ h=>absurd h hc⟩
  · exact ⟨0,fun h=>absurd h hm⟩
 obtain ⟨k,hk⟩:=Classical.axiomOfChoice h
 exact ⟨k,hk⟩
theorem znk (g:Int→Int):∀ {l:List Int},l≠[]→∃ x∈l,∀ y∈l,g x≤g y
 | [],h=>absurd rfl h
 | [z],_=>⟨z,List.mem_singleton.2 rfl,fun y hy=>by rw [List.mem_singleton] at hy;rw [hy];exact Int.le_refl _⟩
 | z::z'::l,_=>by
  obtain ⟨x,h1,h2⟩:=znk g (l:=z'::l) (by simp [-List.getD_eq_getElem?_getD])
  rcases Int.le_total (g z) (g x) with h|h
  · exact ⟨z,List.mem_cons_self ..,fun y hy=>by
     rcases List.mem_cons.1 hy with rfl|hy
     · exact Int.le_refl _
     · have:=h2 y hy;omega⟩
  · exact ⟨x,List.mem_cons_of_mem _ h1,fun y hy=>by
     rcases List.mem_cons.1 hy with rfl|hy
     · exact h
     · exact h2 y hy⟩
structure LotC (w:Wear) (P:List Int) (night known:Int) (S:Nat→List mantle_sight) (show_:Bool) (k:Nat→Int):Prop where
 V:WearOk w
 ok:LotOk w P night known
 nights:∀ m,m<w.Mantles.length→∀ s∈S m,0≤s.night
 few:∀ m,m<w.Mantles.length→(S m).length≤100
 sound:zcj w known S
 cut:Cut w known S night show_ k
def bI (w:Wear) (P:List Int) (night known:Int) (i:Int):Nat:=(bat w (mI w P night known i.toNat)).toNat
def Dec (w:Wear) (P:List Int) (night known:Int) (S:Nat→List mantle_sight) (show_:Bool) (k:Nat→Int) (f i:Int):Prop:=
 bI w P night known f=bI w P night known i∧∀ x,zca w known S (bI w P night known i) x→sg show_ x<k (mI w P night known f.toNat)→¬ OkBy w known (mI w P night known i.toNat) (S (mI w P night known i.toNat)++[⟨night,!show_⟩]) x
theorem Dec.mono {w:Wear} {P:List Int} {night known:Int} {S:Nat→List mantle_sight} {show_:Bool} {k:Nat→Int} {f f' i:Int} (h:Dec w P night known S show_ k f' i) (hb:bI w P night known f=bI w P night known f') (hk:k (mI w P night known f.toNat)≤k (mI w P night known f'.toNat)):Dec w P night known S show_ k f i:=
 ⟨hb.trans h.1,fun x hx hl=>h.2 x hx (by omega)⟩
section
variable {w:Wear} {P:List Int} {night known:Int} {S:Nat→List mantle_sight} {show_:Bool} {k:Nat→Int}
theorem LotC.dbt (h:LotC w P night known S show_ k) {i:Int} (hi:i∈dbt w P night known S):i.toNat<P.length∧mI w P night known i.toNat<w.Mantles.length∧∀ b,zdD w known S (mI w P night known i.toNat) night b:=by
 obtain ⟨q,hq,h2,e⟩:=zfJ.1 hi
 subst e
 rw [Int.toNat_natCast]
 refine ⟨hq,(zkI h.ok hq).2,fun b=>?_⟩
 rcases zeS (w:=w) (known:=known) (S:=S) (m:=mI w P night known q) (night:=night) with ⟨s,_⟩|⟨s,_⟩|⟨s,k1,k2⟩
 · unfold stI at h2;omega
 · unfold stI at h2;omega
 · cases b
   · exact k2
   · exact k1
theorem LotC.bI (h:LotC w P night known S show_ k) {i:Int} (hi:i∈Go.Sp.dbt w P night known S):bat w (mI w P night known i.toNat)=(bI w P night known i:Int)∧bI w P night known i<w.Batches.length:=by
 have:=zfq h.V (h.dbt hi).2.1
 unfold Go.Sp.bI
 omega
theorem LotC.ex (h:LotC w P night known S show_ k) {i:Int} (hi:i∈Go.Sp.dbt w P night known S):∃ x,zca w known S (Go.Sp.bI w P night known i) x∧sg show_ x<k (mI w P night known i.toNat):=by
 obtain ⟨h1,h2,h3⟩:=h.dbt hi
 obtain ⟨x,x1,x2⟩:=(zeL h.V h2).1 (h3 show_)
 exact ⟨x,x1,(h.cut _ h2 (h3 show_) x x1).1 x2⟩
theorem zcG {T:List Int} {m:Nat} {s:mantle_sight}:s∈zcW w P night known S show_ T m↔s∈S m∨(s=⟨night,show_⟩∧∃ i∈T,mI w P night known i.toNat=m):=by
 unfold zcW
 rw [List.mem_append,List.mem_map]
 constructor
 · rintro (h|⟨i,hi,e⟩)
   · exact .inl h
   · obtain ⟨h1,h2⟩:=List.mem_filter.1 hi
     exact .inr ⟨e.symm,i,h1,of_decide_eq_true h2⟩
 · rintro (h|⟨e,i,h1,h2⟩)
   · exact .inl h
   · exact .inr ⟨i,List.mem_filter.2 ⟨h1,decide_eq_true h2⟩,e.symm⟩
theorem LotC.left (h:LotC w P night known S show_ k) {T:List Int} (hT:∀ i∈T,i∈Go.Sp.dbt w P night known S) {q:Nat} {x:Int}:zca w known (zcW w P night known S show_ T) q x↔zca w known S q x∧∀ f∈T,Go.Sp.bI w P night known f=q→sg show_ x<k (mI w P night known f.toNat):=by
 constructor
 · rintro ⟨h1,h2⟩
   have hb:zca w known S q x:=⟨h1,fun i hi hb=>(h2 i hi hb).mono (fun s hs=>zcG.2 (.inl hs))⟩
   refine ⟨hb,fun f hf e=>?_⟩
   obtain ⟨d1,d2,d3⟩:=h.dbt (hT f hf)
   have e2:=(h.bI (hT f hf)).1
   rw [e] at e2
   have e3:(bat w (mI w P night known f.toNat)).toNat=q:=e
   refine (h.cut _ d2 (d3 show_) x (by rw [e3];exact hb)).1 ((h2 _ d2 e2).mono (fun s hs=>?_))
   rcases List.mem_append.1 hs with hs|hs
   · exact zcG.2 (.inl hs)
   · rw [List.mem_singleton] at hs
     exact zcG.2 (.inr ⟨hs,f,hf,rfl⟩)
 · rintro ⟨h1,h2⟩
   refine ⟨h1.1,fun i hi hb=>?_⟩
   by_cases hex:∃ f∈T,mI w P night known f.toNat=i
   · obtain ⟨f,hf,e⟩:=hex
     subst e
     obtain ⟨d1,d2,d3⟩:=h.dbt (hT f hf)
     have e3:Go.Sp.bI w P night known f=q:=by unfold Go.Sp.bI;omega
     refine (ziT (fun s=>?_)).1 ((h.cut _ d2 (d3 show_) x (by show zca w known S (Go.Sp.bI w P night known f) x;rw [e3];exact h1)).2 (h2 f hf e3))
     rw [zcG,List.mem_append,List.mem_singleton]
     exact ⟨fun k=>k.imp id (fun k=>⟨k,f,hf,rfl⟩),fun k=>k.imp id (fun k=>k.1)⟩
   · refine (ziT (fun s=>?_)).1 (h1.2 i hi hb)
     rw [zcG]
     exact ⟨.inl,fun k=>k.elim id (fun k=>absurd k.2 hex)⟩
theorem LotC.lives (h:LotC w P night known S show_ k) {T:List Int} (hT:∀ i∈T,i∈Go.Sp.dbt w P night known S) {q:Nat} (hq:q<w.Batches.length):∃ x,zca w known (zcW w P night known S show_ T) q x:=by
 by_cases hne:T.filter (fun f=>decide (Go.Sp.bI w P night known f=q))=[]
 · obtain ⟨x,hx⟩:=h.sound q hq
   refine ⟨x,(h.left hT).2 ⟨hx,fun f hf e=>?_⟩⟩
   have:f∈T.filter (fun f=>decide (Go.Sp.bI w P night known f=q)):=List.mem_filter.2 ⟨hf,decide_eq_true e⟩
   rw [hne] at this;cases this
 · obtain ⟨f,hf,hmin⟩:=znk (fun f=>k (mI w P night known f.toNat)) hne
   obtain ⟨f1,f2⟩:=List.mem_filter.1 hf
   have f2:=of_decide_eq_true f2
   obtain ⟨x,x1,x2⟩:=h.ex (hT f f1)
   rw [f2] at x1
   refine ⟨x,(h.left hT).2 ⟨x1,fun f' hf' e=>?_⟩⟩
   have:=hmin f' (List.mem_filter.2 ⟨hf',decide_eq_true e⟩)
   omega
theorem LotC.sound2 (h:LotC w P night known S show_ k) {T:List Int} (hT:∀ i∈T,i∈Go.Sp.dbt w P night known S):zcj w known (zcW w P night known S show_ T):=fun _ hq=>h.lives hT hq
theorem LotC.zqZ (h:LotC w P night known S show_ k) {T:List Int}:∀ m,m<w.Mantles.length→∀ s∈zcW w P night known S show_ T m,0≤s.night:=fun m hm s hs=>by
 rcases zcG.1 hs with hs|⟨e,_⟩
 · exact h.nights m hm s hs
 · rw [e];exact h.ok.nOk.1
theorem zno {T:List Int} {m:Nat} {b:Bool} (h:zdD w known (zcW w P night known S show_ T) m night b):zdD w known S m night b:=zpv (fun _ _ hs=>zcG.2 (.inl hs)) h
theorem LotC.stays (h:LotC w P night known S show_ k) {T:List Int} (hT:∀ i∈T,i∈Go.Sp.dbt w P night known S) {i:Nat} (hi:i<P.length) (h2:stI w P night known S i≠2):stI w P night known (zcW w P night known S show_ T) i=stI w P night known S i:=by
 have hm:=(zkI h.ok hi).2
 have hb:=zfq h.V hm
 unfold stI at h2 ⊢
 rcases zeS (w:=w) (known:=known) (S:=S) (m:=mI w P night known i) (night:=night) with ⟨s,k1⟩|⟨s,k1,k2⟩|⟨s,_⟩
 · rw [s];exact zkz (fun c=>k1 (zno c))
 · have n2:¬ zdD w known (zcW w P night known S show_ T) (mI w P night known i) night false:=fun c=>k2 (zno c)
   rw [s]
   refine zky ?_ n2
   obtain ⟨x,hx⟩:=h.lives hT (q:=(bat w (mI w P night known i)).toNat) (by omega)
   rcases ok_or h.V (h.zqZ _ hm) h.ok.nOk.1 (zgN h.V hm hx) with c|c
   · exact (zeL h.V hm).2 ⟨x,hx,c⟩
   · exact absurd ((zeL h.V hm).2 ⟨x,hx,c⟩) n2
 · exact absurd s h2
theorem LotC.is (h:LotC w P night known S show_ k) {T:List Int} (hT:∀ i∈T,i∈Go.Sp.dbt w P night known S) {i:Int} (hi:i∈Go.Sp.dbt w P night known S):zdD w known (zcW w P night known S show_ T) (mI w P night known i.toNat) night show_:=by
 obtain ⟨d1,d2,d3⟩:=h.dbt hi
 have hT2:∀ f∈i::T,f∈Go.Sp.dbt w P night known S:=fun f hf=>by
  rcases List.mem_cons.1 hf with rfl|hf
  · exact hi
  · exact hT f hf
 obtain ⟨x,hx⟩:=h.lives hT2 (h.bI hi).2
 refine (zeL h.V d2).2 ⟨x,(h.left hT).2 ⟨((h.left hT2).1 hx).1,fun f hf e=>((h.left hT2).1 hx).2 f (List.mem_cons_of_mem _ hf) e⟩,?_⟩
 have hb:=zgN h.V d2 hx
 refine (ziT (fun s=>?_)).1 hb
 rw [zcG,List.mem_append,List.mem_singleton,zcG]
 constructor
 · rintro (h|⟨e,f,hf,e2⟩)
   · exact .inl (.inl h)
   · exact .inr e
 · rintro ((h|⟨e,f,hf,e2⟩)|e)
   · exact .inl h
   · exact .inr ⟨e,f,List.mem_cons_of_mem _ hf,e2⟩
   · exact .inr ⟨e,i,List.mem_cons_self ..,rfl⟩
theorem zpJ {x:Int} {m:Int} {l:List mantle_sight} (h1:(⟨night,show_⟩:mantle_sight)∈l) (h2:(⟨night,!show_⟩:mantle_sight)∈l) (h:OkBy w known m l x):False:=by
 cases show_ with
 | true=>have:=(h.two _ h2 _ h1 rfl rfl).1;simp only at this;omega
 | false=>have:=(h.two _ h1 _ h2 rfl rfl).1;simp only at this;omega
theorem LotC.nots (h:LotC w P night known S show_ k) {T:List Int} (hT:∀ i∈T,i∈Go.Sp.dbt w P night known S) {i:Int} (hi:i∈Go.Sp.dbt w P night known S):zdD w known (zcW w P night known S show_ T) (mI w P night known i.toNat) night (!show_)↔¬ ∃ f∈T,f=i∨Dec w P night known S show_ k f i:=by
 obtain ⟨d1,d2,d3⟩:=h.dbt hi
 have hib:=h.bI hi
 rw [zeL h.V d2]
 have eb:(bat w (mI w P night known i.toNat)).toNat=Go.Sp.bI w P night known i:=rfl
 rw [eb]
 constructor
 · rintro ⟨x,x1,x2⟩ ⟨f,hf,e|hd⟩
   · subst e
     exact zpJ (List.mem_append.2 (.inl (zcG.2 (.inr ⟨rfl,f,hf,rfl⟩)))) (List.mem_append.2 (.inr (List.mem_singleton.2 rfl))) x2
   · obtain ⟨x3,x4⟩:=(h.left hT).1 x1
     refine hd.2 x x3 (x4 f hf hd.1) (x2.mono (fun s hs=>?_))
     rcases List.mem_append.1 hs with hs|hs
     · exact List.mem_append.2 (.inl (zcG.2 (.inl hs)))
     · exact List.mem_append.2 (.inr hs)
 · intro hno
   have hni:¬ ∃ f∈T,mI w P night known f.toNat=mI w P night known i.toNat:=by
    rintro ⟨f,hf,e⟩
    have:=mI_inj h.ok (h.dbt (hT f hf)).1 d1 e
    obtain ⟨q,_,_,e1⟩:=zfJ.1 (hT f hf)
    obtain ⟨q2,_,_,e2⟩:=zfJ.1 hi
    exact hno ⟨f,hf,.inl (by omega)⟩
   have hext:∀ x,OkBy w known (mI w P night known i.toNat) (S (mI w P night known i.toNat)++[⟨night,!show_⟩]) x→OkBy w known (mI w P night known i.toNat) (zcW w P night known S show_ T (mI w P night known i.toNat)++[⟨night,!show_⟩]) x:=fun x hx=>(ziT (fun s=>by
    rw [List.mem_append,List.mem_append,zcG]
    exact ⟨fun k=>k.imp .inl id,fun k=>k.imp (fun k=>k.elim id (fun k=>absurd k.2 hni)) id⟩)).1 hx
   by_cases hne:T.filter (fun f=>decide (Go.Sp.bI w P night known f=Go.Sp.bI w P night known i))=[]
   · obtain ⟨x,x1,x2⟩:=(zeL h.V d2).1 (d3 (!show_))
     refine ⟨x,(h.left hT).2 ⟨x1,fun f hf e=>?_⟩,hext x x2⟩
     have:f∈T.filter (fun f=>decide (Go.Sp.bI w P night known f=Go.Sp.bI w P night known i)):=List.mem_filter.2 ⟨hf,decide_eq_true e⟩
     rw [hne] at this;cases this
   · obtain ⟨f,hf,hmin⟩:=znk (fun f=>k (mI w P night known f.toNat)) hne
     obtain ⟨f1,f2⟩:=List.mem_filter.1 hf
     have f2:=of_decide_eq_true f2
     have hnd:¬ Dec w P night known S show_ k f i:=fun hd=>hno ⟨f,f1,.inr hd⟩
     unfold Dec at hnd
     have:∃ x,zca w known S (Go.Sp.bI w P night known i) x∧sg show_ x<k (mI w P night known f.toNat)∧OkBy w known (mI w P night known i.toNat) (S (mI w P night known i.toNat)++[⟨night,!show_⟩]) x:=by
      refine Classical.byContradiction (fun hc=>hnd ⟨f2,fun x x1 x2 x3=>hc ⟨x,x1,x2,x3⟩⟩)
     obtain ⟨x,x1,x2,x3⟩:=this
     refine ⟨x,(h.left hT).2 ⟨x1,fun f' hf' e=>?_⟩,hext x x3⟩
     have:=hmin f' (List.mem_filter.2 ⟨hf',decide_eq_true e⟩)
     omega
theorem LotC.after (h:LotC w P night known S show_ k) {T:List Int} (hT:∀ i∈T,i∈Go.Sp.dbt w P night known S) {i:Int} (hi:i∈Go.Sp.dbt w P night known S):(decB w P night known S show_ T i=true↔∃ f∈T,f=i∨Dec w P night known S show_ k f i)∧stI w P night known (zcW w P night known S show_ T) i.toNat=if decB w P night known S show_ T i=true then (if show_=true then 1 else 0) else 2:=by
 have h1:=h.is hT hi
 have h2:=h.nots hT hi
 unfold decB
 have k1:(∃ f∈T,f=i∨Dec w P night known S show_ k f i)→stI w P night known (zcW w P night known S show_ T) i.toNat=(if show_=true then 1 else 0):=fun hc=>by
  unfold stI
  have h3:¬ zdD w known (zcW w P night known S show_ T) (mI w P night known i.toNat) night (!show_):=fun c=>h2.1 c hc
  cases show_ with
  | true=>rw [if_pos rfl];exact zky h1 h3
  | false=>rw [if_neg (by decide)];exact zkz h3
 have k2:(¬ ∃ f∈T,f=i∨Dec w P night known S show_ k f i)→stI w P night known (zcW w P night known S show_ T) i.toNat=2:=fun hc=>by
  unfold stI
  have h3:=h2.2 hc
  cases show_ with
  | true=>exact zkx h1 h3
  | false=>exact zkx h3 h1
 have e1:(!decide (stI w P night known (zcW w P night known S show_ T) i.toNat=2))=true↔∃ f∈T,f=i∨Dec w P night known S show_ k f i:=by
  rw [Bool.not_eq_true',decide_eq_false_iff_not]
  by_cases hc:∃ f∈T,f=i∨Dec w P night known S show_ k f i
  · rw [k1 hc]
    exact ⟨fun _=>hc,fun _=>by split <;> decide⟩
  · rw [k2 hc]
    exact ⟨fun h=>absurd rfl h,fun h=>absurd h hc⟩
 refine ⟨e1,?_⟩
 by_cases hc:∃ f∈T,f=i∨Dec w P night known S show_ k f i
 · rw [if_pos (e1.2 hc),k1 hc]
 · rw [if_neg (fun k=>hc (e1.1 k)),k2 hc]
theorem zre {T:List Int}:(dcd w P night known S show_ T:Int)=zaL (fun i=>decide (stI w P night known S i=2) && decB w P night known S show_ T (i:Int)) (fun _=>1) P.length:=by
 have go:∀ n,(((dbtN w P night known S n).filter (decB w P night known S show_ T)).length:Int)=zaL (fun i=>decide (stI w P night known S i=2) && decB w P night known S show_ T (i:Int)) (fun _=>1) n:=by
  intro n
  induction n with
  | zero=>rfl
  | succ n ih=>
   rw [zhK]
   unfold zaL
   rw [← ih]
   by_cases h1:stI w P night known S n=2
   · rw [if_pos h1,zc2]
     by_cases h2:decB w P night known S show_ T (n:Int)=true
     · rw [if_pos h2,if_pos (by rw [h1,h2];rfl),List.length_append];rfl
     · rw [if_neg h2,if_neg (by rw [h1];simpa [-List.getD_eq_getElem?_getD] using h2),Int.add_zero]
   · rw [if_neg h1,if_neg (by simp [-List.getD_eq_getElem?_getD,h1]),Int.add_zero]
 exact go P.length
noncomputable def need (w:Wear) (P:List Int) (night known:Int) (S:Nat→List mantle_sight) (show_:Bool) (many:Int):Int:=
 if show_=true then many+1 - zaL (fun i=>decide (stI w P night known S i=1)) (fun _=>1) P.length else zaL (fun i=>!decide (stI w P night known S i=0)) (fun _=>1) P.length - many
theorem LotC.zol (h:LotC w P night known S show_ k) {T:List Int} (hT:∀ i∈T,i∈Go.Sp.dbt w P night known S) {i:Nat} (hi:i<P.length) (h2:stI w P night known S i=2):stI w P night known (zcW w P night known S show_ T) i=if decB w P night known S show_ T (i:Int)=true then (if show_=true then 1 else 0) else 2:=by
 have:=(h.after hT (i:=(i:Int)) (zfJ.2 ⟨i,hi,h2,rfl⟩)).2
 rw [Int.toNat_natCast] at this
 exact this
theorem zlb {r:Range} {many:Int}:zaG r many=1↔many<r.Lo:=by
 unfold zaG
 by_cases h:many<r.Lo
 · simp [-List.getD_eq_getElem?_getD,h]
 · by_cases h2:r.Hi≤many <;> simp [-List.getD_eq_getElem?_getD,h,h2]
theorem zlc {r:Range} {many:Int}:zaG r many=0↔¬ many<r.Lo∧r.Hi≤many:=by
 unfold zaG
 by_cases h:many<r.Lo
 · simp [-List.getD_eq_getElem?_getD,h]
 · by_cases h2:r.Hi≤many <;> simp [-List.getD_eq_getElem?_getD,h,h2]
theorem LotC.settles (h:LotC w P night known S show_ k) {T:List Int} (hT:∀ i∈T,i∈Go.Sp.dbt w P night known S) (hl:T.length≤100) {x:mantle_lot} (hx:LotS w P night known S x) (many:Int):zbc x T many show_=some (decide (need w P night known S show_ many≤(dcd w P night known S show_ T:Int))):=by
 have hin:InP P T:=fun q hq=>zl8 q (hT q hq)
 unfold zbc
 refine Wp.eq (wp_bind (zjn h.V h.ok hx h.few hin hl show_) (fun y hy=>?_))
 obtain ⟨b,b1,b2⟩:=zid hy.hung
 refine zax b1 ?_
 rw [b2.2 (h.sound2 hT)]
 refine zaP rfl ?_
 rw [zre]
 unfold need
 cases show_ with
 | true=>
  refine zcN rfl (zax (zjf h.V h.ok hy) (zau ?_))
  rw [if_pos rfl,Bool.eq_iff_iff,decide_eq_true_eq,decide_eq_true_eq,zlb]
  have e:zaL (fun i=>decide (stI w P night known (zcW w P night known S true T) i=1)) (fun _=>1) P.length=zaL (fun i=>decide (stI w P night known S i=1)) (fun _=>1) P.length+zaL (fun i=>decide (stI w P night known S i=2) && decB w P night known S true T (i:Int)) (fun _=>1) P.length:=by
   refine zdW (fun i hi=>?_) (fun i hi c=>?_)
   · by_cases h2:stI w P night known S i=2
     · rw [h.zol hT hi h2,h2,if_pos rfl]
       cases decB w P night known S true T (i:Int) <;> rfl
     · rw [h.stays hT hi h2,decide_eq_false h2,Bool.false_and,Bool.or_false]
   · obtain ⟨c1,c2⟩:=c
     have c1:=of_decide_eq_true c1
     rw [c1] at c2;simp [-List.getD_eq_getElem?_getD] at c2
  simp only
  omega
 | false=>
  refine zaP rfl (zax (zjf h.V h.ok hy) (zau ?_))
  rw [if_neg (by decide),Bool.eq_iff_iff,decide_eq_true_eq,decide_eq_true_eq,zlc]
  have e:zaL (fun i=>!decide (stI w P night known S i=0)) (fun _=>1) P.length=zaL (fun i=>!decide (stI w P night known (zcW w P night known S false T) i=0)) (fun _=>1) P.length+zaL (fun i=>decide (stI w P night known S i=2) && decB w P night known S false T (i:Int)) (fun _=>1) P.length:=by
   refine zdW (fun i hi=>?_) (fun i hi c=>?_)
   · by_cases h2:stI w P night known S i=2
     · rw [h.zol hT hi h2,h2]
       cases decB w P night known S false T (i:Int) <;> rfl
     · rw [h.stays hT hi h2,decide_eq_false h2,Bool.false_and,Bool.or_false]
   · obtain ⟨c1,c2⟩:=c
     simp only [Bool.and_eq_true,decide_eq_true_eq] at c2
     rw [h.zol hT hi c2.1,if_pos c2.2] at c1
     simp [-List.getD_eq_getElem?_getD] at c1
  have hle:zaL (fun i=>decide (stI w P night known (zcW w P night known S false T) i=1)) (fun _=>1) P.length≤zaL (fun i=>!decide (stI w P night known (zcW w P night known S false T) i=0)) (fun _=>1) P.length:=zlp (fun i hi hp=>by
   have:=of_decide_eq_true hp
   rw [this];rfl)
  simp only
  omega
end
end Go.Sp
end
/- Plain laws, mantle: how many looks decide: lists of looks, batch by batch. No program in sight. -/
section
set_option linter.all false
namespace Go.Sp
open Go.Av
set_option maxRecDepth 100000
theorem filter_or {T:Type} {p q r:T→Bool}:∀ {l:List T},(∀ x∈l,r x=(p x || q x))→(∀ x∈l,¬ (p x=true∧q x=true))→(l.filter r).length=(l.filter p).length+(l.filter q).length
 | [],_,_=>rfl
 | x::l,h1,h2=>by
  have ih:=filter_or (fun y hy=>h1 y (List.mem_cons_of_mem _ hy)) (fun y hy=>h2 y (List.mem_cons_of_mem _ hy))
  have e1:=h1 x (List.mem_cons_self ..)
  have e2:=h2 x (List.mem_cons_self ..)
  cases hp:p x <;> cases hq:q x <;> rw [hp,hq] at e1
  · rw [List.filter_cons_of_neg (by rw [e1];decide),List.filter_cons_of_neg (by rw [hp];decide),List.filter_cons_of_neg (by rw [hq];decide)];exact ih
  · rw [List.filter_cons_of_pos (by rw [e1];rfl),List.filter_cons_of_neg (by rw [hp];decide),List.filter_cons_of_pos (by rw [hq]),List.length_cons,List.length_cons,ih];omega
  · rw [List.filter_cons_of_pos (by rw [e1];rfl),List.filter_cons_of_pos (by rw [hp]),List.filter_cons_of_neg (by rw [hq];decide),List.length_cons,List.length_cons,ih];omega
  · exact absurd ⟨hp,hq⟩ e2
theorem zl0 {T:Type} (p:T→Bool) (l:List T):l.length=(l.filter p).length+(l.filter (fun x=>!p x)).length:=by
 have h:=filter_or (r:=fun _=>true) (p:=p) (q:=fun x=>!p x) (l:=l) (fun x _=>by cases p x <;> rfl) (fun x _=>by cases p x <;> simp [-List.getD_eq_getElem?_getD])
 have e:l.filter (fun _=>true)=l:=List.filter_eq_self.2 (fun _ _=>rfl)
 rw [e] at h;exact h
theorem filter_mono {T:Type} {p q:T→Bool}:∀ {l:List T},(∀ x∈l,p x=true→q x=true)→(l.filter p).length≤(l.filter q).length
 | [],_=>Nat.le_refl _
 | x::l,h=>by
  have ih:=filter_mono (fun y hy=>h y (List.mem_cons_of_mem _ hy)) (p:=p) (q:=q)
  have e:=h x (List.mem_cons_self ..)
  cases hp:p x with
  | false=>
   rw [List.filter_cons_of_neg (by rw [hp];decide)]
   exact Nat.le_trans ih (by
    cases hq:q x with
    | false=>rw [List.filter_cons_of_neg (by rw [hq];decide)];exact Nat.le_refl _
    | true=>rw [List.filter_cons_of_pos (by rw [hq]),List.length_cons];omega)
  | true=>rw [List.filter_cons_of_pos (by rw [hp]),List.filter_cons_of_pos (e hp),List.length_cons,List.length_cons];omega
section
variable {w:Wear} {P:List Int} {night known:Int} {S:Nat→List mantle_sight} {show_:Bool} {k:Nat→Int}
structure Some (w:Wear) (P:List Int) (night known:Int) (S:Nat→List mantle_sight) (q:Nat→Prop) (T:List Int):Prop where
 mem:∀ i∈T,i∈dbt w P night known S
 nd:T.Nodup
 bat:∀ i∈T,q (bI w P night known i)
theorem Some.len {q:Nat→Prop} {T:List Int} (h:Some w P night known S q T):T.length≤(dbt w P night known S).length:=zeU h.nd h.mem
theorem Some.zmB (hP:LotOk w P night known) {q:Nat→Prop} {T:List Int} (h:Some w P night known S q T):T.length≤20:=by
 have h1:=h.len
 have h2:=zgL (w:=w) (P:=P) (night:=night) (known:=known) (S:=S) (n:=P.length)
 have h3:=hP.len
 unfold dbt at h1
 omega
theorem LotC.dec (h:LotC w P night known S show_ k) {T:List Int} (hT:∀ i∈T,i∈Go.Sp.dbt w P night known S) {i:Int} (hi:i∈Go.Sp.dbt w P night known S):decB w P night known S show_ T i=true↔∃ f∈T,f=i∨Dec w P night known S show_ k f i:=(h.after hT hi).1
theorem LotC.mono (h:LotC w P night known S show_ k) {T T':List Int} (hT:∀ i∈T,i∈Go.Sp.dbt w P night known S) (hT':∀ i∈T',i∈Go.Sp.dbt w P night known S) (hs:∀ i∈T,i∈T'):dcd w P night known S show_ T≤dcd w P night known S show_ T':=by
 unfold dcd
 refine filter_mono (fun i hi hp=>?_)
 obtain ⟨f,hf,e⟩:=(h.dec hT hi).1 hp
 exact (h.dec hT' hi).2 ⟨f,hs f hf,e⟩
theorem LotC.nil (h:LotC w P night known S show_ k):dcd w P night known S show_ []=0:=by
 unfold dcd
 rw [List.length_eq_zero_iff,List.filter_eq_nil_iff]
 intro i hi hp
 obtain ⟨f,hf,_⟩:=(h.dec (fun i hi=>by cases hi) hi).1 hp
 cases hf
theorem LotC.all (h:LotC w P night known S show_ k):dcd w P night known S show_ (Go.Sp.dbt w P night known S)=(Go.Sp.dbt w P night known S).length:=by
 unfold dcd
 rw [List.filter_eq_self.2]
 intro i hi
 exact (h.dec (fun i hi=>hi) hi).2 ⟨i,hi,.inl rfl⟩
theorem LotC.zpq (h:LotC w P night known S show_ k) {T:List Int} (hT:∀ i∈T,i∈Go.Sp.dbt w P night known S) {i:Int} (hi:i∈Go.Sp.dbt w P night known S) (hd:decB w P night known S show_ T i=true):∃ f∈T,Go.Sp.bI w P night known f=Go.Sp.bI w P night known i:=by
 obtain ⟨f,hf,e|e⟩:=(h.dec hT hi).1 hd
 · exact ⟨f,hf,by rw [e]⟩
 · exact ⟨f,hf,e.1⟩
theorem LotC.add (h:LotC w P night known S show_ k) {A B:List Int} (hA:∀ i∈A,i∈Go.Sp.dbt w P night known S) (hB:∀ i∈B,i∈Go.Sp.dbt w P night known S) (hd:∀ i∈A,∀ j∈B,Go.Sp.bI w P night known i≠Go.Sp.bI w P night known j):dcd w P night known S show_ (A++B)=dcd w P night known S show_ A+dcd w P night known S show_ B:=by
 unfold dcd
 have hAB:∀ i∈A++B,i∈Go.Sp.dbt w P night known S:=fun i hi=>by
  rcases List.mem_append.1 hi with hi|hi
  · exact hA i hi
  · exact hB i hi
 refine filter_or (fun i hi=>?_) (fun i hi hc=>?_)
 · rw [Bool.eq_iff_iff,Bool.or_eq_true,h.dec hAB hi,h.dec hA hi,h.dec hB hi]
   constructor
   · rintro ⟨f,hf,e⟩
     rcases List.mem_append.1 hf with hf|hf
     · exact .inl ⟨f,hf,e⟩
     · exact .inr ⟨f,hf,e⟩
   · rintro (⟨f,hf,e⟩|⟨f,hf,e⟩)
     · exact ⟨f,List.mem_append.2 (.inl hf),e⟩
     · exact ⟨f,List.mem_append.2 (.inr hf),e⟩
 · obtain ⟨f,hf,e1⟩:=h.zpq hA hi hc.1
   obtain ⟨g,hg,e2⟩:=h.zpq hB hi hc.2
   exact hd f hf g hg (e1.trans e2.symm)
noncomputable def mine (w:Wear) (P:List Int) (night known:Int) (S:Nat→List mantle_sight) (b:Nat):List Int:=(dbt w P night known S).filter (fun i=>decide ((bI w P night known i:Int)=(b:Int)))
theorem zd6 {b:Nat} {i:Int}:i∈mine w P night known S b↔i∈dbt w P night known S∧bI w P night known i=b:=by
 unfold mine
 rw [List.mem_filter,decide_eq_true_eq]
 exact ⟨fun h=>⟨h.1,by omega⟩,fun h=>⟨h.1,by omega⟩⟩
theorem zoJ {b:Nat}:(mine w P night known S b).Nodup:=List.Nodup.sublist List.filter_sublist zik
noncomputable def opens (w:Wear) (P:List Int) (night known:Int) (S:Nat→List mantle_sight) (show_:Bool) (b:Nat) (f:Int):List Int:=(mine w P night known S b).filter (fun i=>!decide (i=f) && !decB w P night known S show_ [f] i)
noncomputable def planF (w:Wear) (P:List Int) (night known:Int) (S:Nat→List mantle_sight) (show_:Bool) (b:Nat) (f:Int) (n:Nat):List Int:=[f]++(opens w P night known S show_ b f).take (min (n - 1) (opens w P night known S show_ b f).length)
structure PlanOk (w:Wear) (P:List Int) (night known:Int) (S:Nat→List mantle_sight) (b n:Nat) (p:List Int):Prop where
 some:Some w P night known S (· = b) p
 ne:p≠[]
 len:p.length≤n
theorem zhx {b:Nat} {f i:Int}:i∈opens w P night known S show_ b f↔i∈mine w P night known S b∧i≠f∧¬ decB w P night known S show_ [f] i=true:=by
 unfold opens
 rw [List.mem_filter,Bool.and_eq_true,Bool.not_eq_true',Bool.not_eq_true',decide_eq_false_iff_not,Bool.not_eq_true]
theorem znd {b:Nat} {f:Int}:(opens w P night known S show_ b f).Nodup:=List.Nodup.sublist List.filter_sublist zoJ
theorem zlA {b n:Nat} {f i:Int} (hf:f∈mine w P night known S b) (hi:i∈planF w P night known S show_ b f n):i∈mine w P night known S b:=by
 unfold planF at hi
 rcases List.mem_append.1 hi with hi|hi
 · rw [List.mem_singleton] at hi;rw [hi];exact hf
 · exact (zhx.1 (List.mem_of_mem_take hi)).1
theorem znb {b n:Nat} {f:Int} (hf:f∈mine w P night known S b) (hn:1≤n):PlanOk w P night known S b n (planF w P night known S show_ b f n):=by
 refine ⟨⟨fun i hi=>(zd6.1 (zlA hf hi)).1,?_,fun i hi=>(zd6.1 (zlA hf hi)).2⟩,by unfold planF;simp [-List.getD_eq_getElem?_getD],?_⟩
 · unfold planF
   rw [List.nodup_append]
   refine ⟨List.nodup_cons.2 ⟨List.not_mem_nil,List.nodup_nil⟩,List.Nodup.sublist (List.take_sublist _ _) znd,fun a ha c hc e=>?_⟩
   rw [List.mem_singleton] at ha
   exact (zhx.1 (List.mem_of_mem_take hc)).2.1 (e.symm.trans ha)
 · unfold planF
   rw [List.length_append,List.length_take]
   simp only [List.length_cons,List.length_nil]
   omega
theorem LotC.zox (h:LotC w P night known S show_ k) {b n:Nat} {T:List Int} (hT:Some w P night known S (· = b) T) (hne:T≠[]) (hl:T.length≤n):∃ f∈mine w P night known S b,dcd w P night known S show_ T≤dcd w P night known S show_ (planF w P night known S show_ b f n):=by
 obtain ⟨f,hf,hmin⟩:=znk (fun f=>k (mI w P night known f.toNat)) hne
 have hfD:=hT.mem f hf
 have hfm:f∈mine w P night known S b:=zd6.2 ⟨hfD,hT.bat f hf⟩
 refine ⟨f,hfm,?_⟩
 have h1:∀ i∈([f]:List Int),i∈Go.Sp.dbt w P night known S:=fun i hi=>by rw [List.mem_singleton] at hi;rw [hi];exact hfD
 have hpl:=znb (show_:=show_) hfm (n:=n) (by have:T.length≠0:=fun e=>hne (List.length_eq_zero_iff.1 e);omega)
 -- what T decides
 have hup:dcd w P night known S show_ T≤((mine w P night known S b).filter (decB w P night known S show_ [f])).length+(T.filter (fun i=>!decide (i=f) && !decB w P night known S show_ [f] i)).length:=by
  unfold dcd
  rw [← List.length_append]
  refine zeU (List.Nodup.sublist List.filter_sublist zik) (fun i hi=>?_)
  obtain ⟨hiD,hid⟩:=List.mem_filter.1 hi
  obtain ⟨g,hg,e⟩:=(h.dec hT.mem hiD).1 hid
  rw [List.mem_append,List.mem_filter,List.mem_filter]
  rcases e with e|e
  · subst e
    cases hd:decB w P night known S show_ [f] g with
    | true=>exact .inl ⟨zd6.2 ⟨hiD,hT.bat g hg⟩,rfl⟩
    | false=>
     refine .inr ⟨hg,?_⟩
     rw [Bool.and_eq_true,Bool.not_eq_true',decide_eq_false_iff_not]
     refine ⟨fun e=>?_,rfl⟩
     rw [(h.dec h1 hiD).2 ⟨f,List.mem_singleton.2 rfl,.inl e.symm⟩] at hd
     cases hd
  · have hb:Go.Sp.bI w P night known f=Go.Sp.bI w P night known g:=(hT.bat f hf).trans (hT.bat g hg).symm
    have hm:=hmin g hg
    exact .inl ⟨zd6.2 ⟨hiD,e.1.symm.trans (hT.bat g hg)⟩,(h.dec h1 hiD).2 ⟨f,List.mem_singleton.2 rfl,.inr (e.mono hb hm)⟩⟩
 have hrest1:(T.filter (fun i=>!decide (i=f) && !decB w P night known S show_ [f] i)).length≤(opens w P night known S show_ b f).length:=zeU (List.Nodup.sublist List.filter_sublist hT.nd) (fun i hi=>by
  obtain ⟨a,c⟩:=List.mem_filter.1 hi
  exact List.mem_filter.2 ⟨zd6.2 ⟨hT.mem i a,hT.bat i a⟩,c⟩)
 have hrest2:(T.filter (fun i=>!decide (i=f) && !decB w P night known S show_ [f] i)).length+1≤T.length:=by
  have:(f::T.filter (fun i=>!decide (i=f) && !decB w P night known S show_ [f] i)).length≤T.length:=zeU (List.nodup_cons.2 ⟨fun hm=>by
   have:=(List.mem_filter.1 hm).2
   simp [-List.getD_eq_getElem?_getD] at this,List.Nodup.sublist List.filter_sublist hT.nd⟩) (fun i hi=>by
   rcases List.mem_cons.1 hi with rfl|hi
   · exact hf
   · exact (List.mem_filter.1 hi).1)
  rw [List.length_cons] at this
  exact this
 -- what the plan decides
 have hlo:((mine w P night known S b).filter (decB w P night known S show_ [f])).length+((opens w P night known S show_ b f).take (min (n - 1) (opens w P night known S show_ b f).length)).length≤dcd w P night known S show_ (planF w P night known S show_ b f n):=by
  unfold dcd
  rw [← List.length_append]
  refine zeU ?_ (fun i hi=>?_)
  · rw [List.nodup_append]
    refine ⟨List.Nodup.sublist List.filter_sublist zoJ,List.Nodup.sublist (List.take_sublist _ _) znd,fun a ha c hc e=>?_⟩
    have h3:=(zhx.1 (List.mem_of_mem_take hc)).2.2
    rw [← e] at h3
    exact h3 (List.mem_filter.1 ha).2
  · rw [List.mem_filter]
    rcases List.mem_append.1 hi with hi|hi
    · obtain ⟨a,c⟩:=List.mem_filter.1 hi
      have hiD:=(zd6.1 a).1
      refine ⟨hiD,?_⟩
      obtain ⟨g,hg,e⟩:=(h.dec h1 hiD).1 c
      rw [List.mem_singleton] at hg
      subst hg
      exact (h.dec hpl.some.mem hiD).2 ⟨g,by unfold planF;exact List.mem_append.2 (.inl (List.mem_singleton.2 rfl)),e⟩
    · have hiD:=(zd6.1 (zhx.1 (List.mem_of_mem_take hi)).1).1
      exact ⟨hiD,(h.dec hpl.some.mem hiD).2 ⟨i,by unfold planF;exact List.mem_append.2 (.inr hi),.inl rfl⟩⟩
 rw [List.length_take] at hlo
 omega
end
end Go.Sp
end
/- Plain laws, mantle: the plans of a batch. No program in sight. -/
section
set_option linter.all false
namespace Go.Sp
open Go.Av
set_option maxRecDepth 100000
section
variable {w:Wear} {P:List Int} {night known:Int} {S:Nat→List mantle_sight} {show_:Bool} {k:Nat→Int}
def PlAt (w:Wear) (P:List Int) (night known:Int) (S:Nat→List mantle_sight) (show_:Bool) (b j:Nat) (out:List (List Int)) (best:List Int) (n:Nat):Prop:=
 (j=0∧out.getD n default=[])∨(PlanOk w P night known S b n (out.getD n default)∧best.getD n default=(dcd w P night known S show_ (out.getD n default):Int)∧∀ j',j'<j→dcd w P night known S show_ (planF w P night known S show_ b ((mine w P night known S b).getD j' default) n)≤dcd w P night known S show_ (out.getD n default))
theorem LotC.min20 (h:LotC w P night known S show_ k) (b:Nat):(mine w P night known S b).length≤20:=by
 have h1:(mine w P night known S b).length≤(Go.Sp.dbt w P night known S).length:=List.length_filter_le _ _
 have h2:=zgL (w:=w) (P:=P) (night:=night) (known:=known) (S:=S) (n:=P.length)
 have h3:=h.ok.len
 unfold Go.Sp.dbt at h1
 omega
theorem zhh {i:Int} (hi:i∈dbt w P night known S):∃ q:Nat,i=(q:Int)∧q<P.length:=by
 obtain ⟨q,hq,_,e⟩:=zfJ.1 hi
 exact ⟨q,e,hq⟩
theorem LotC.plans (h:LotC w P night known S show_ k) {x:mantle_lot} (hx:LotS w P night known S x) (b:Nat) :
 Wp (zcr x (b:Int) show_) (fun r=>r.length=(mine w P night known S b).length+1∧r.getD 0 default=[]∧∀ n,1≤n→n≤(mine w P night known S b).length→PlanOk w P night known S b n (r.getD n default)∧∀ f∈mine w P night known S b,dcd w P night known S show_ (planF w P night known S show_ b f n)≤dcd w P night known S show_ (r.getD n default)):=by
 have hl20:=h.ok.len
 have hN:=h.min20 b
 unfold zcr
 refine zax (zhg h.V h.ok hx) ?_
 refine zbj (fun i s=>s=((Go.Sp.dbt w P night known S).take i).filter (fun i=>decide ((Go.Sp.bI w P night known i:Int)=(b:Int)))) rfl (fun i s K hi hI hK=>?_) (fun s3 h3=>?_)
 · subst hI
   have hm:=zbq hi
   obtain ⟨q,eq,hq⟩:=zhh hm
   have hbI:=(h.bI hm).1
   rw [eq] at hbI hm
   rw [eq,Int.toNat_natCast,zh9 h.ok hx hq,zh8 hx]
   rw [Int.toNat_natCast] at hbI
   have hfl:(((Go.Sp.dbt w P night known S).take i).filter (fun i=>decide ((Go.Sp.bI w P night known i:Int)=(b:Int)))).length≤20:=Nat.le_trans (List.length_filter_le _ _) (by
    have h2:=zgL (w:=w) (P:=P) (night:=night) (known:=known) (S:=S) (n:=P.length)
    unfold Go.Sp.dbt
    rw [List.length_take];omega)
   refine zan (by omega) (zax (zmd w hx.hung.wear (zkI h.ok hq).2) ?_)
   rw [hbI]
   refine zbt (fun hc=>za5 (by rw [List.length_append];simp only [List.length_cons,List.length_nil];omega) (hK _ ?_)) (fun hc=>hK _ ?_)
   · rw [zb3 hi,zc2,eq,if_pos (decide_eq_true hc)]
   · rw [zb3 hi,zc2,eq,if_neg (by rw [decide_eq_true_eq];exact hc)]
 rw [List.take_length] at h3
 have h3:s3=mine w P night known S b:=h3
 subst h3
 have hget:∀ {j},j<(mine w P night known S b).length→(mine w P night known S b).getD j default∈mine w P night known S b:=fun hj=>zbq hj
 have hD:∀ {i},i∈mine w P night known S b→i∈Go.Sp.dbt w P night known S:=fun hi=>(zd6.1 hi).1
 generalize hMe:mine w P night known S b=M at hN hget hD ⊢
 have eN:((M.length:Int)+1).toNat=M.length+1:=by omega
 simp only [eN]
 refine zag (by omega) (zan ⟨by omega,by omega,by unfold room;omega⟩ (zag (by omega) (zan ⟨by omega,by omega,by unfold room;omega⟩ (zan (by omega) ?_))))
 refine zbj (fun j s=>s.1.length=M.length+1∧s.2.length=M.length+1∧s.1.getD 0 default=[]∧∀ n,1≤n→n≤M.length→PlAt w P night known S show_ b j s.1 s.2 n) ⟨by simp [-List.getD_eq_getElem?_getD],by simp [-List.getD_eq_getElem?_getD],zg0 _ _ _,fun n _ _=>.inl ⟨rfl,zg0 _ _ _⟩⟩ (fun j s K hj hI hK=>?_) (fun s hs=>zau ?_)
 · obtain ⟨out,best⟩:=s
   obtain ⟨i1,i2,i3,i4⟩:=hI
   simp only at i1 i2 i3 i4 hK ⊢
   have hf:=hget hj
   have hpl:∀ n,dcd w P night known S show_ (planF w P night known S show_ b ((mine w P night known S b).getD j default) n)=dcd w P night known S show_ (planF w P night known S show_ b (M.getD j default) n):=fun n=>by rw [hMe]
   generalize hfe:M.getD j default=f at hf hpl ⊢
   have hfm:f∈mine w P night known S b:=by rw [hMe];exact hf
   have h1:∀ i∈([f]:List Int),i∈Go.Sp.dbt w P night known S:=fun i hi=>by rw [List.mem_singleton] at hi;rw [hi];exact hD hf
   refine wp_bind (zjn h.V h.ok hx h.few (T:=[f]) (fun q hq=>zl8 q (h1 q hq)) (by simp [-List.getD_eq_getElem?_getD]) show_) (fun y hy=>zan (by omega) ?_)
   refine zbj (fun i s=>s=(M.take i).filter (fun i=>!decide (i=f) && !decB w P night known S show_ [f] i)) rfl (fun i s K2 hi hI2 hK2=>?_) (fun s18 h18=>?_)
   · subst hI2
     have hg:=hget hi
     obtain ⟨q,eq,hq⟩:=zhh (hD hg)
     rw [eq,Int.toNat_natCast,zh9 h.ok hx hq,zh8 hx,hx.night]
     have hfl:((M.take i).filter (fun i=>!decide (i=f) && !decB w P night known S show_ [f] i)).length≤20:=Nat.le_trans (List.length_filter_le _ _) (by rw [List.length_take];omega)
     refine zan (fun _=>by omega) (zjM (Q:=fun z=>z=stI w P night known (zcW w P night known S show_ [f]) q) (fun _=>⟨_,zm3 h.V h.ok hy hq,rfl⟩) (fun z hz=>?_))
     have hp:(!decide ((q:Int)=f) && decide (z=2))=(!decide ((q:Int)=f) && !decB w P night known S show_ [f] (q:Int)):=by
      cases hc:decide ((q:Int)=f) with
      | true=>rfl
      | false=>
       rw [hz (by rw [hc];rfl)]
       unfold decB
       rw [Int.toNat_natCast,Bool.not_not]
     rw [hp]
     refine zcn (fun hc=>za5 (by rw [List.length_append];simp only [List.length_cons,List.length_nil];omega) (hK2 _ ?_)) (fun hc=>hK2 _ ?_)
     · rw [zb3 hi,zc2,eq,if_pos hc]
     · rw [zb3 hi,zc2,eq,if_neg (by rw [hc];decide)]
   rw [List.take_length] at h18
   have h18:s18=opens w P night known S show_ b f:=by rw [h18,← hMe];rfl
   subst h18
   have hol:(opens w P night known S show_ b f).length≤20:=by
    have:(opens w P night known S show_ b f).length≤(mine w P night known S b).length:=List.length_filter_le _ _
    rw [hMe] at this;omega
   refine zag (by omega) (zan (by omega) ?_)
   refine zbj (fun i s=>s.1.length=M.length+1∧s.2.length=M.length+1∧s.1.getD 0 default=[]∧∀ n,1≤n→n≤M.length→(n<i→PlAt w P night known S show_ b (j+1) s.1 s.2 n)∧(i≤n→PlAt w P night known S show_ b j s.1 s.2 n)) ⟨i1,i2,i3,fun n h1 h2=>⟨fun k=>absurd k (Nat.not_lt_zero _),fun _=>i4 n h1 h2⟩⟩ (fun i s K3 hi hI3 hK3=>?_) (fun s hs=>?_)
   · obtain ⟨o,bs⟩:=s
     obtain ⟨j1,j2,j3,j4⟩:=hI3
     simp only at j1 j2 j3 j4 hK3 ⊢
     refine zfr (fun s=>s.1.length=M.length+1∧s.2.length=M.length+1∧s.1.getD 0 default=[]∧∀ n,1≤n→n≤M.length→(n<i+1→PlAt w P night known S show_ b (j+1) s.1 s.2 n)∧(i+1≤n→PlAt w P night known S show_ b j s.1 s.2 n)) (fun K4 hK4=>?_) (fun s hs=>hK3 _ hs)
     refine zbt (fun h0=>hK4 _ ⟨j1,j2,j3,fun n n1 n2=>⟨fun k=>by omega,fun k=>(j4 n n1 n2).2 (by omega)⟩⟩) (fun h0=>?_)
     have hi1:1≤i:=by omega
     have hiM:i≤M.length:=by omega
     have e2:(min ((i:Int) - 1) ((opens w P night known S show_ b f).length:Int)).toNat=min (i - 1) (opens w P night known S show_ b f).length:=by omega
     simp only [e2]
     have e3:([f]++(opens w P night known S show_ b f).take (min (i - 1) (opens w P night known S show_ b f).length))=planF w P night known S show_ b f i:=rfl
     simp only [e3]
     have hok:=znb (show_:=show_) hfm hi1
     have hpl20:=hok.some.zmB h.ok
     refine zag (by omega) (zan ⟨by omega,by omega⟩ (za5 (by omega) (zax (zke h.V h.ok hx h.few (fun q hq=>zl8 q (hok.some.mem q hq)) (by omega) show_) ?_)))
     refine zan (by omega) (zan (fun _=>by omega) ?_)
     have hold:=(j4 i hi1 hiM).2 (Nat.le_refl _)
     refine zcn (fun hc=>zan (by omega) (zan ?_ (zan (by omega) (hK4 _ ?_)))) (fun hc=>hK4 _ ?_)
     · cases hpe:planF w P night known S show_ b f i with
       | nil=>exact absurd hpe hok.ne
       | cons _ _=>rfl
     · have hgo:∀ n,(o.set i (planF w P night known S show_ b f i)).getD n default=if n=i then planF w P night known S show_ b f i else o.getD n default:=fun n=>zhD _ _ _ _ _ (by omega)
       have hgb:∀ n,(bs.set i (dcd w P night known S show_ (planF w P night known S show_ b f i):Int)).getD n default=if n=i then (dcd w P night known S show_ (planF w P night known S show_ b f i):Int) else bs.getD n default:=fun n=>zhD _ _ _ _ _ (by omega)
       refine ⟨by rw [List.length_set];exact j1,by rw [List.length_set];exact j2,by rw [hgo,if_neg (by omega)];exact j3,fun n n1 n2=>⟨fun k=>?_,fun k=>?_⟩⟩
       · by_cases e:n=i
         · subst e
           refine .inr ?_
           simp only
           rw [hgo,hgb,if_pos rfl,if_pos rfl]
           refine ⟨hok,rfl,fun j' hj'=>?_⟩
           by_cases ej:j'=j
           · subst ej
             rw [hpl];exact Nat.le_refl _
           · rcases hold with ⟨c1,_⟩|⟨c1,c2,c3⟩
             · omega
             · refine Nat.le_trans (c3 j' (by omega)) ?_
               rw [Bool.or_eq_true,decide_eq_true_eq] at hc
               rcases hc with hc|hc
               · exact absurd (List.isEmpty_iff.1 hc) c1.ne
               · omega
         · have:=(j4 n n1 n2).1 (by omega)
           unfold PlAt at this ⊢
           simp only
           rw [hgo,hgb,if_neg e,if_neg e]
           exact this
       · have e:n≠i:=by omega
         have:=(j4 n n1 n2).2 (by omega)
         unfold PlAt at this ⊢
         simp only
         rw [hgo,hgb,if_neg e,if_neg e]
         exact this
     · rw [Bool.or_eq_false_iff,decide_eq_false_iff_not] at hc
       refine ⟨j1,j2,j3,fun n n1 n2=>⟨fun k=>?_,fun k=>(j4 n n1 n2).2 (by omega)⟩⟩
       by_cases e:n=i
       · subst e
         rcases hold with ⟨c1,c2⟩|⟨c1,c2,c3⟩
         · rw [c2] at hc;exact absurd hc.1 (by decide)
         · refine .inr ⟨c1,c2,fun j' hj'=>?_⟩
           by_cases ej:j'=j
           · subst ej
             rw [hpl]
             have hc2:=hc.2
             simp only at c2 ⊢
             rw [c2] at hc2
             omega
           · exact c3 j' (by omega)
       · exact (j4 n n1 n2).1 (by omega)
   · obtain ⟨k1,k2,k3,k4⟩:=hs
     exact hK _ ⟨k1,k2,k3,fun n n1 n2=>(k4 n n1 n2).1 (by omega)⟩
 · obtain ⟨k1,k2,k3,k4⟩:=hs
   refine ⟨k1,k3,fun n n1 n2=>?_⟩
   rcases k4 n n1 n2 with ⟨c1,_⟩|⟨c1,_,c3⟩
   · omega
   · refine ⟨c1,fun f hf=>?_⟩
     obtain ⟨j',hj',e⟩:=zds hf
     have:=c3 j' hj'
     rw [hMe,e] at this
     exact this
end
end Go.Sp
end
/- Plain laws, mantle: the fewest looks that settle a claim. No program in sight. -/
section
set_option linter.all false
namespace Go.Sp
open Go.Av
set_option maxRecDepth 100000
theorem zoh {S:Type} {body:Int→S→(S→Option Unit)→Option Unit} {exit:S→Option Unit} {P:Unit→Prop} (Inv:List Int→S→Prop) {n:Nat} {l:List Int} {s0:S} (hn:l.length=n) (h0:Inv l s0)
 (hb:∀ left k s (K:S→Option Unit),k∈left→Inv left s→(∀ s',Inv (left.erase k) s'→Wp (K s') P)→Wp (body k s K) P) (he:∀ s,Inv [] s→Wp (exit s) P) (hP:P ()):Wp (zdV body exit n l s0) P:=by
 have go:∀ (n:Nat) (l:List Int) (s:S),l.length=n→Inv l s→Wp (zdV body exit n l s) P:=by
  intro n
  induction n with
  | zero=>
   intro l s hl hI
   have:l=[]:=List.length_eq_zero_iff.1 hl
   subst this
   exact he s hI
  | succ n ih=>
   intro l s hl hI
   refine ⟨(),?_,hP⟩
   show allU _ l=some ()
   refine zmV (fun k hk=>?_)
   obtain ⟨u,e,_⟩:=hb l k s (zdV body exit n (l.erase k)) hk hI (fun s' hI'=>ih _ s' (by rw [List.length_erase_of_mem hk,hl];rfl) hI')
   exact e
 exact go n l s0 hn h0
theorem zps {a b:List Int} (ha:a.length≤1000) (hb:b.length≤1000):zcq [a,b]=some (a++b):=by
 unfold zcq
 refine Wp.eq (zbj (fun i s=>s=((([a,b].take i).map (fun l=>(l.length:Int))).foldl (· + ·) 0)) rfl (fun i s K hi hI hK=>?_) (fun s hs=>?_))
 · match i,hi with
   | 0,_=>
    have hI:s=0:=hI
    subst hI
    simp only [List.getD_cons_zero]
    exact zag (by omega) (zaP (by rw [decide_eq_false_iff_not];omega) (hK _ (by simp [-List.getD_eq_getElem?_getD])))
   | 1,_=>
    have hI:s=0+(a.length:Int):=hI
    subst hI
    simp only [List.getD_cons_succ,List.getD_cons_zero]
    exact zag (by omega) (zaP (by rw [decide_eq_false_iff_not];omega) (hK _ (by simp [-List.getD_eq_getElem?_getD])))
 · have hs:s=0+(a.length:Int)+(b.length:Int):=hs
   refine zax (v:=[]) ?_ ?_
   · unfold zcx
     refine Wp.eq (zpH (zaP (by rw [decide_eq_false_iff_not];omega) (zag (by omega) (zag (by omega) ?_))))
     refine zbt (fun h=>?_) (fun h=>zau rfl)
     exact zan ⟨by omega,by unfold room;omega⟩ (zan ⟨by rw [List.length_replicate];omega,by omega,by omega⟩ (zau rfl))
   · refine zbj (fun i s=>s=([a,b].take i).flatten) rfl (fun i s K hi hI hK=>?_) (fun s hs=>zau (by rw [hs];simp [-List.getD_eq_getElem?_getD]))
     match i,hi with
     | 0,_=>
      have hI:s=[]:=hI
      subst hI
      simp only [List.getD_cons_zero]
      exact za5 (by rw [List.nil_append];omega) (hK _ (by simp [-List.getD_eq_getElem?_getD]))
     | 1,_=>
      have hI:s=a:=by rw [hI];simp [-List.getD_eq_getElem?_getD]
      subst hI
      simp only [List.getD_cons_succ,List.getD_cons_zero]
      exact za5 (by rw [List.length_append];omega) (hK _ (by simp [-List.getD_eq_getElem?_getD]))
section
variable {w:Wear} {P:List Int} {night known:Int} {S:Nat→List mantle_sight} {show_:Bool} {k:Nat→Int}
theorem Some.to {q r:Nat→Prop} {T:List Int} (h:Some w P night known S q T) (hr:∀ n,q n→r n):Some w P night known S r T:=⟨h.mem,h.nd,fun i hi=>hr _ (h.bat i hi)⟩
theorem Some.nil {q:Nat→Prop}:Some w P night known S q []:=⟨fun i hi=>(by cases hi),List.nodup_nil,fun i hi=>(by cases hi)⟩
theorem Some.app {b:Nat} {A B:List Int} (hA:Some w P night known S (· < b) A) (hB:Some w P night known S (· = b) B):Some w P night known S (· < b+1) (A++B):=by
 refine ⟨fun i hi=>?_,?_,fun i hi=>?_⟩
 · rcases List.mem_append.1 hi with hi|hi
   · exact hA.mem i hi
   · exact hB.mem i hi
 · rw [List.nodup_append]
   refine ⟨hA.nd,hB.nd,fun a ha c hc e=>?_⟩
   have h1:=hA.bat a ha
   have h2:=hB.bat c hc
   rw [e] at h1
   omega
 · rcases List.mem_append.1 hi with hi|hi
   · have:=hA.bat i hi;omega
   · have:=hB.bat i hi;omega
theorem LotC.app (h:LotC w P night known S show_ k) {b:Nat} {A B:List Int} (hA:Some w P night known S (· < b) A) (hB:Some w P night known S (· = b) B):dcd w P night known S show_ (A++B)=dcd w P night known S show_ A+dcd w P night known S show_ B:=
 h.add hA.mem hB.mem (fun i hi j hj e=>by
  have h1:=hA.bat i hi
  have h2:=hB.bat j hj
  omega)
structure MkVal (w:Wear) (P:List Int) (night known:Int) (S:Nat→List mantle_sight) (b:Nat) (m:Mp (List Int)):Prop where
 ok:m.ok
 keys:∀ q,(m.get q).isSome=true→q∈m.keys
 val:∀ q l,m.get q=some l→Some w P night known S (· < b) l∧(l.length:Int)=q
structure MkOk (w:Wear) (P:List Int) (night known:Int) (S:Nat→List mantle_sight) (show_:Bool) (b:Nat) (m:Mp (List Int)):Prop where
 v:MkVal w P night known S b m
 best:∀ T,Some w P night known S (· < b) T→∃ q l,m.get q=some l∧l.length≤T.length∧dcd w P night known S show_ T≤dcd w P night known S show_ l
theorem MkVal.put {b:Nat} {m:Mp (List Int)} (h:MkVal w P night known S b m) {l:List Int} (hl:Some w P night known S (· < b) l) {q:Int} (hq:(l.length:Int)=q):MkVal w P night known S b (m.set q l):=by
 have hk:=Mp.zne h.ok h.keys q l
 refine ⟨hk.1,hk.2,fun j l' e=>?_⟩
 rw [Mp.zeq] at e
 by_cases ej:j=q
 · rw [if_pos ej] at e
   cases e
   exact ⟨hl,by omega⟩
 · rw [if_neg ej] at e;exact h.val j l' e
def Done (w:Wear) (P:List Int) (night known:Int) (S:Nat→List mantle_sight) (show_:Bool) (m:Mp (List Int)) (T:List Int):Prop:=∃ q l,m.get q=some l∧l.length=T.length∧dcd w P night known S show_ T≤dcd w P night known S show_ l
theorem Done.put {m:Mp (List Int)} {T l:List Int} {q:Int} (h:Done w P night known S show_ m T) (hlen:∀ l',m.get q=some l'→l'.length=l.length) (hq:∀ l',m.get q=some l'→dcd w P night known S show_ l'≤dcd w P night known S show_ l):Done w P night known S show_ (m.set q l) T:=by
 obtain ⟨j,l',e,h1,h2⟩:=h
 by_cases ej:j=q
 · subst ej
   exact ⟨j,l,by rw [Mp.zeq,if_pos rfl],by rw [← hlen l' e];exact h1,Nat.le_trans h2 (hq l' e)⟩
 · exact ⟨j,l',by rw [Mp.zeq,if_neg ej];exact e,h1,h2⟩
def FewV (w:Wear) (P:List Int) (night known:Int) (S:Nat→List mantle_sight) (show_:Bool) (many:Int) (r:List Int×Bool):Prop:=
 (r.2=true∧Some w P night known S (fun _=>True) r.1∧need w P night known S show_ many≤(dcd w P night known S show_ r.1:Int)∧∀ T,Some w P night known S (fun _=>True) T→need w P night known S show_ many≤(dcd w P night known S show_ T:Int)→r.1.length≤T.length) ∨
 (r.2=false∧∀ T,Some w P night known S (fun _=>True) T→¬ need w P night known S show_ many≤(dcd w P night known S show_ T:Int))
theorem LotC.fewest (h:LotC w P night known S show_ k) {x:mantle_lot} (hx:LotS w P night known S x) {fuel:Nat} (hf:1000≤fuel) (many:Int) {post:List Int×Bool→Option Unit} (hp:∀ r,FewV w P night known S show_ many r→Wp (post r) (fun _=>True)):Wp (zbW fuel x many show_ post) (fun _=>True):=by
 have nb:=h.V.nb
 have hl20:=h.ok.len
 unfold zbW
 rw [hx.hung.wear]
 refine zan (by omega) ?_
 refine zbj (fun b s=>MkOk w P night known S show_ b s) ?_ (fun b m K hb hM hK=>?_) (fun m hM=>?_)
 · refine ⟨⟨(Mp.zne Mp.ziS (fun q hq=>(by cases hq)) 0 []).1,(Mp.zne Mp.ziS (fun q hq=>(by cases hq)) 0 []).2,fun q l e=>?_⟩,fun T hT=>⟨0,[],by rw [Mp.zeq,if_pos rfl],Nat.zero_le _,?_⟩⟩
   · rw [Mp.zeq] at e
     by_cases eq:q=0
     · rw [if_pos eq] at e;cases e
       exact ⟨Some.nil,by rw [eq];rfl⟩
     · rw [if_neg eq] at e;cases e
   · have:T=[]:=List.eq_nil_iff_forall_not_mem.2 (fun i hi=>absurd (hT.bat i hi) (Nat.not_lt_zero _))
     rw [this];exact Nat.le_refl _
 · refine wp_bind (h.plans hx b) (fun y hy=>zan hM.v.ok ?_)
   obtain ⟨y1,y2,y3⟩:=hy
   have hN:=h.min20 b
   have hpl:∀ i,i<y.length→Some w P night known S (· = b) (y.getD i default)∧(y.getD i default).length≤20:=fun i hi=>by
    by_cases e:i=0
    · subst e;rw [y2];exact ⟨Some.nil,by simp [-List.getD_eq_getElem?_getD]⟩
    · have:=(y3 i (by omega) (by omega)).1
      exact ⟨this.some,this.some.zmB h.ok⟩
   refine zoh (fun left s=>left.Nodup∧(∀ q∈left,q∈m.keys)∧MkVal w P night known S (b+1) s∧∀ q l,m.get q=some l→q ∉ left→∀ i,i<y.length→Done w P night known S show_ s (l++y.getD i default)) hM.v.ok.2.1 ⟨hM.v.ok.1,fun _ h=>h,⟨Mp.ziS,fun q hq=>(by cases hq),fun q l e=>(by cases e)⟩,fun q l e hq=>absurd (hM.v.keys q (by rw [e];rfl)) hq⟩ (fun left q s K2 hq hI hK2=>?_) (fun s hs=>hK _ ?_) trivial
   · obtain ⟨i1,i2,i3,i4⟩:=hI
     obtain ⟨l,el⟩:=Option.isSome_iff_exists.1 (hM.v.ok.2.2 q (i2 q hq))
     obtain ⟨l1,l2⟩:=hM.v.val q l el
     have l3:=l1.zmB h.ok
     rw [el,Option.getD_some]
     refine zbj (fun i s=>MkVal w P night known S (b+1) s∧(∀ q l,m.get q=some l→q ∉ left→∀ i,i<y.length→Done w P night known S show_ s (l++y.getD i default))∧∀ j,j<i→Done w P night known S show_ s (l++y.getD j default)) ⟨i3,i4,fun j hj=>absurd hj (Nat.not_lt_zero _)⟩ (fun i s K3 hi hI3 hK3=>?_) (fun s hs=>hK2 _ ?_)
     · obtain ⟨v1,v2,v3⟩:=hI3
       obtain ⟨p1,p2⟩:=hpl i hi
       have hall:=l1.app p1
       have hlen:(l++y.getD i default).length=l.length+(y.getD i default).length:=List.length_append
       refine zax (zps (by omega) (by omega)) (zag (by omega) ?_)
       have hkey:((l++y.getD i default).length:Int)=q+((y.getD i default).length:Int):=by rw [hlen];omega
       have hdec:∀ T,Some w P night known S (· < b+1) T→za2 x T show_=some (dcd w P night known S show_ T:Int):=fun T hT=>zke h.V h.ok hx h.few (fun j hj=>zl8 j (hT.mem j hj)) (by have:=hT.zmB h.ok;omega) show_
       generalize hae:l++y.getD i default=all at hall hlen hkey ⊢
       have hput:(∀ l',s.get (q+((y.getD i default).length:Int))=some l'→dcd w P night known S show_ l'≤dcd w P night known S show_ all)→MkVal w P night known S (b+1) (s.set (q+((y.getD i default).length:Int)) all)∧(∀ q' l,m.get q'=some l→q' ∉ left→∀ i',i'<y.length→Done w P night known S show_ (s.set (q+((y.getD i default).length:Int)) all) (l++y.getD i' default))∧(∀ j,j<i→Done w P night known S show_ (s.set (q+((y.getD i default).length:Int)) all) (l++y.getD j default))∧Done w P night known S show_ (s.set (q+((y.getD i default).length:Int)) all) all:=fun hq2=>by
        have hln:∀ l',s.get (q+((y.getD i default).length:Int))=some l'→l'.length=all.length:=fun l' e=>by
         have:=(v1.val _ l' e).2
         omega
        exact ⟨v1.put hall hkey,fun q' l e hq' i' hi'=>(v2 q' l e hq' i' hi').put hln hq2,fun j hj=>(v3 j hj).put hln hq2,⟨_,all,by rw [Mp.zeq,if_pos rfl],rfl,Nat.le_refl _⟩⟩
       cases hg:s.get (q+((y.getD i default).length:Int)) with
       | none=>
        simp only [Option.isSome_none,Bool.not_false,Bool.not_true,Bool.true_or]
        refine zmj rfl rfl (zmj rfl rfl (zcN rfl (zag (by omega) (hK3 _ ?_))))
        obtain ⟨a1,a2,a3,a4⟩:=hput (fun l' e=>by rw [hg] at e;cases e)
        refine ⟨a1,a2,fun j hj=>?_⟩
        by_cases ej:j=i
        · subst ej;rw [hae];exact a4
        · exact a3 j (by omega)
       | some l'=>
        have hv':=v1.val _ l' hg
        simp only [Option.isSome_some,Bool.not_false,Bool.not_true,Bool.false_or,Option.getD_some]
        refine zln rfl (hdec all hall) (zln rfl (hdec l' hv'.1) (zbt (fun hc=>zag (by omega) (hK3 _ ?_)) (fun hc=>hK3 _ ?_)))
        · obtain ⟨a1,a2,a3,a4⟩:=hput (fun l2 e=>by rw [hg] at e;cases e;omega)
          refine ⟨a1,a2,fun j hj=>?_⟩
          by_cases ej:j=i
          · subst ej;rw [hae];exact a4
          · exact a3 j (by omega)
        · refine ⟨v1,v2,fun j hj=>?_⟩
          by_cases ej:j=i
          · subst ej;rw [hae];exact ⟨_,l',hg,by have:=hv'.2;omega,by omega⟩
          · exact v3 j (by omega)
     · obtain ⟨v1,v2,v3⟩:=hs
       refine ⟨i1.erase q,fun j hj=>i2 j (List.mem_of_mem_erase hj),v1,fun q' l' e hq' i hi=>?_⟩
       by_cases eq:q'=q
       · subst eq
         rw [el] at e;cases e
         exact v3 i hi
       · exact v2 q' l' e (fun k=>hq' ((List.mem_erase_of_ne eq).2 k)) i hi
   · obtain ⟨_,_,s3,s4⟩:=hs
     refine ⟨s3,fun T hT=>?_⟩
     have hT1:Some w P night known S (· < b) (T.filter (fun i=>decide (Go.Sp.bI w P night known i<b))):=⟨fun i hi=>hT.mem i (List.mem_filter.1 hi).1,List.Nodup.sublist List.filter_sublist hT.nd,fun i hi=>of_decide_eq_true (List.mem_filter.1 hi).2⟩
     have hT2:Some w P night known S (· = b) (T.filter (fun i=>!decide (Go.Sp.bI w P night known i<b))):=⟨fun i hi=>hT.mem i (List.mem_filter.1 hi).1,List.Nodup.sublist List.filter_sublist hT.nd,fun i hi=>by
      obtain ⟨a,c⟩:=List.mem_filter.1 hi
      rw [Bool.not_eq_true',decide_eq_false_iff_not] at c
      have:=hT.bat i a
      omega⟩
     have hlen:=zl0 (fun i=>decide (Go.Sp.bI w P night known i<b)) T
     obtain ⟨q,l,e,e1,e2⟩:=hM.best _ hT1
     obtain ⟨l1,_⟩:=hM.v.val q l e
     have hdT:dcd w P night known S show_ T≤dcd w P night known S show_ (T.filter (fun i=>decide (Go.Sp.bI w P night known i<b)))+dcd w P night known S show_ (T.filter (fun i=>!decide (Go.Sp.bI w P night known i<b))):=by
      rw [← h.app hT1 hT2]
      refine h.mono hT.mem (hT1.app hT2).mem (fun i hi=>?_)
      rw [List.mem_append,List.mem_filter,List.mem_filter]
      by_cases c:Go.Sp.bI w P night known i<b
      · exact .inl ⟨hi,decide_eq_true c⟩
      · exact .inr ⟨hi,by rw [decide_eq_false c];rfl⟩
     generalize T.filter (fun i=>decide (Go.Sp.bI w P night known i<b))=T1 at *
     generalize T.filter (fun i=>!decide (Go.Sp.bI w P night known i<b))=T2 at *
     have hp2:∃ i,i<y.length∧(y.getD i default).length≤T2.length∧dcd w P night known S show_ T2≤dcd w P night known S show_ (y.getD i default):=by
      by_cases hne:T2=[]
      · refine ⟨0,by omega,by rw [y2];exact Nat.zero_le _,?_⟩
        rw [hne,h.nil];exact Nat.zero_le _
      · have hle:T2.length≤(mine w P night known S b).length:=zeU hT2.nd (fun i hi=>zd6.2 ⟨hT2.mem i hi,hT2.bat i hi⟩)
        have h0:T2.length≠0:=fun e=>hne (List.length_eq_zero_iff.1 e)
        obtain ⟨f,hfm,hfd⟩:=h.zox hT2 hne (Nat.le_refl _)
        have:=y3 T2.length (by omega) hle
        exact ⟨T2.length,by omega,this.1.len,Nat.le_trans hfd (this.2 f hfm)⟩
     obtain ⟨i,hi,c1,c2⟩:=hp2
     obtain ⟨j,l',f1,f2,f3⟩:=s4 q l e (by simp [-List.getD_eq_getElem?_getD]) i hi
     refine ⟨j,l',f1,by rw [f2,List.length_append];omega,?_⟩
     rw [h.app l1 (hpl i hi).1] at f3
     omega
 · have hev:∀ T,Some w P night known S (fun _=>True) T→Some w P night known S (· < w.Batches.length) T:=fun T hT=>⟨hT.mem,hT.nd,fun i hi=>(h.bI (hT.mem i hi)).2⟩
   have hset:∀ q l,m.get q=some l→zbc x l many show_=some (decide (need w P night known S show_ many≤(dcd w P night known S show_ l:Int))):=fun q l e=>h.settles (hM.v.val q l e).1.mem (by have:=(hM.v.val q l e).1.zmB h.ok;omega) hx many
   refine zkv (n:=P.length+1) (by omega) (fun i=>∀ l,m.get (i:Int)=some l→¬ need w P night known S show_ many≤(dcd w P night known S show_ l:Int)) (fun i K hi hI hK=>?_) (fun hall K=>?_)
   · rw [hx.lamps]
     refine zcN (by rw [decide_eq_true_eq];omega) ?_
     have hmin:∀ T,Some w P night known S (fun _=>True) T→need w P night known S show_ many≤(dcd w P night known S show_ T:Int)→i≤T.length:=fun T hT hn=>by
      obtain ⟨q,l,e,e1,e2⟩:=hM.best T (hev T hT)
      have hq:=(hM.v.val q l e).2
      refine Classical.byContradiction (fun hc=>?_)
      refine hI l.length (by omega) l (by rw [hq];exact e) (by omega)
     cases hg:m.get (i:Int) with
     | none=>
      simp only [Option.isSome_none,Bool.false_and]
      exact zmj rfl rfl (zaP rfl (zag (by omega) (hK (fun l e=>by rw [hg] at e;cases e))))
     | some l=>
      simp only [Option.isSome_some,Bool.true_and,Option.getD_some]
      obtain ⟨v1,v2⟩:=hM.v.val _ l hg
      refine zln rfl (hset _ l hg) (zbt (fun hc=>hp _ (.inl ⟨rfl,v1.to (fun _ _=>trivial),hc,fun T hT hn=>?_⟩)) (fun hc=>zag (by omega) (hK (fun l' e=>by rw [hg] at e;cases e;exact hc))))
      have:=hmin T hT hn
      simp only;omega
   · rw [hx.lamps]
     refine zaP (by rw [decide_eq_false_iff_not];omega) (hp _ (.inr ⟨rfl,fun T hT hn=>?_⟩))
     obtain ⟨q,l,e,e1,e2⟩:=hM.best T (hev T hT)
     have hq:=(hM.v.val q l e).2
     have h1:=hT.len
     have h2:=zgL (w:=w) (P:=P) (night:=night) (known:=known) (S:=S) (n:=P.length)
     unfold Go.Sp.dbt at h1
     exact hall l.length (by omega) l (by rw [hq];exact e) (by omega)
end
end Go.Sp
end
