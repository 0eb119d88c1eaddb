/- Texts of the framework, or of the plain law, one behind another. -/
import Derived.Test.YtakjeajlmlmkeaaGreatFr1
import Derived.Test.YtakjeajlmlmkeaaGreatFr5
import Derived.KernelRfl
/- Rules for plain laws: what a printed definition yields. No program in sight. -/
section
set_option linter.all false
namespace Go.Sp
open Go.Av
def Wp {R:Type} (x:Option R) (P:R→Prop):Prop:=∃ r,x=some r∧P r
theorem Wp.eq {R:Type} {x:Option R} {v:R} (h:Wp x (· = v)):x=some v:=by
 obtain ⟨r,h1,h2⟩:=h;rw [h1,h2]
theorem zaC {R:Type} {r:R} {P:R→Prop} (h:P r):Wp (some r) P:=⟨r,rfl,h⟩
theorem zay {R:Type} {c:Prop} [Decidable c] {x:Option R} {P:R→Prop} (h:c) (k:Wp x P):Wp (must c x) P:=by
 unfold must;rw [if_pos h];exact k
theorem wp_bind {S R:Type} {x:Option S} {k:S→Option R} {P:R→Prop} {Q:S→Prop} (h:Wp x Q) (hk:∀ s,Q s→Wp (k s) P):Wp (zao x k) P:=by
 obtain ⟨r,h1,h2⟩:=h;rw [h1];exact hk r h2
theorem zaP {S R:Type} {x:Option S} {k:S→Option R} {P:R→Prop} {v:S} (h:x=some v) (hk:Wp (k v) P):Wp (zao x k) P:=by
 rw [h];exact hk
theorem zcz {R:Type} {b:Bool} {x y:Option R} {P:R→Prop} (h1:b=true→Wp x P) (h2:b=false→Wp y P):Wp (bif b then x else y) P:=by
 cases b
 · exact h2 rfl
 · exact h1 rfl
theorem wp_if {R:Type} {p:Prop} {b:Bool} {x y:Option R} {P:R→Prop} (hb:b=true↔p) (h1:p→Wp x P) (h2:¬ p→Wp y P):Wp (bif b then x else y) P:=
 zcz (fun h=>h1 (hb.1 h)) (fun h=>h2 (fun hp=>by rw [hb.2 hp] at h;cases h))
theorem zck {R:Type} {p:Prop} [Decidable p] {x y:Option R} {P:R→Prop} (h1:p→Wp x P) (h2:¬ p→Wp y P):Wp (bif (decide p) then x else y) P:=
 wp_if (decide_eq_true_iff) h1 h2
theorem zgs {R:Type} {p:Prop} [Decidable p] {x y:Option R} {P:R→Prop} (h1:¬ p→Wp x P) (h2:p→Wp y P):Wp (bif (!decide p) then x else y) P:=
 zcz (fun h=>h1 (by simpa using h)) (fun h=>h2 (by simpa using h))
theorem zef {R:Type} {b:Bool} {x y:Option R} {P:R→Prop} (h:b=true) (h1:Wp x P):Wp (bif b then x else y) P:=by rw [h];exact h1
theorem zcO {R:Type} {b:Bool} {x y:Option R} {P:R→Prop} (h:b=false) (h1:Wp y P):Wp (bif b then x else y) P:=by rw [h];exact h1
theorem zgx {S R:Type} {f:(S→Option R)→Option R} {k:S→Option R} {P:R→Prop} (G:S→Prop) (hf:∀ K:S→Option R,(∀ s,G s→Wp (K s) P)→Wp (f K) P) (hk:∀ s,G s→Wp (k s) P):Wp (ziL f k) P:=hf k hk
theorem zey {S R:Type} {body:Nat→S→(S→Option R)→Option R} {ex:S→Option R} {n:Nat} {s0:S} {P:R→Prop} (Inv:Nat→S→Prop) (h0:Inv 0 s0)
 (hb:∀ (i:Nat) s (K:S→Option R),i<n→Inv i s→(∀ s',Inv (i+1) s'→Wp (K s') P)→Wp (body i s K) P) (he:∀ s,Inv n s→Wp (ex s) P):Wp (zas body ex n 0 s0) P:=by
 have go:∀ (m i:Nat),i+m=n→∀ s,Inv i s→Wp (zas body ex m i s) P:=by
  intro m
  induction m with
  | zero=>intro i hi s hs;have e:i=n:=(by omega);subst e;exact he s hs
  | succ m ih=>intro i hi s hs;exact hb i s _ (by omega) hs (fun s' h'=>ih (i+1) (by omega) s' h')
 exact go n 0 (by omega) s0 h0
theorem wp_loop {S R:Type} {body:S→(S→Option R)→Option R} {fuel:Nat} {s0:S} {P:R→Prop} (Inv:S→Prop) (μ:S→Nat) (hf:μ s0<fuel) (h0:Inv s0)
 (hb:∀ s (K:S→Option R),Inv s→(∀ s',Inv s'→μ s'<μ s→Wp (K s') P)→Wp (body s K) P):Wp (loopGo body fuel s0) P:=by
 have go:∀ (f:Nat) s,Inv s→μ s<f→Wp (loopGo body f s) P:=by
  intro f
  induction f with
  | zero=>intro s _ h;omega
  | succ f ih=>intro s hs hm;exact hb s _ hs (fun s' h' hl=>ih s' h' (by omega))
 exact go fuel s0 h0 hf
theorem zji {S R:Type} {body:(Int×S)→((Int×S)→Option R)→Option R} {fuel:Nat} {s0:S} {P:R→Prop} (n:Nat) (hf:n<fuel) (Inv:Nat→S→Prop) (h0:Inv 0 s0)
 (hb:∀ (i:Nat) s (K:(Int×S)→Option R),i≤n→Inv i s→(∀ s',i<n→Inv (i+1) s'→Wp (K ((i:Int)+1,s')) P)→Wp (body ((i:Int),s) K) P):Wp (loopGo body fuel (0,s0)) P:=by
 have go:∀ (f i:Nat) s,i≤n→n - i<f→Inv i s→Wp (loopGo body f ((i:Int),s)) P:=by
  intro f
  induction f with
  | zero=>intro i s _ h;omega
  | succ f ih=>intro i s hi hm hs;exact hb i s _ hi hs (fun s' hl h'=>ih (i+1) s' (by omega) (by omega) h')
 exact go fuel 0 s0 (by omega) (by omega) h0
theorem zpC {R:Type} {body:Int→(Int→Option R)→Option R} {fuel:Nat} {P:R→Prop} (n:Nat) (hf:n<fuel) (Inv:Nat→Prop) (h0:Inv 0)
 (hb:∀ (i:Nat) (K:Int→Option R),i≤n→Inv i→(i<n→Inv (i+1)→Wp (K ((i:Int)+1)) P)→Wp (body (i:Int) K) P):Wp (loopGo body fuel 0) P:=by
 have go:∀ (f i:Nat),i≤n→n - i<f→Inv i→Wp (loopGo body f (i:Int)) P:=by
  intro f
  induction f with
  | zero=>intro i _ h;omega
  | succ f ih=>intro i hi hm hs;exact hb i _ hi hs (fun hl h'=>ih (i+1) (by omega) (by omega) h')
 exact go fuel 0 (by omega) (by omega) h0
theorem zpB {S R:Type} {body:(S×Int)→((S×Int)→Option R)→Option R} {fuel:Nat} {s0:S} {P:R→Prop} (n:Nat) (hf:n<fuel) (Inv:Nat→S→Prop) (h0:Inv 0 s0)
 (hb:∀ (i:Nat) s (K:(S×Int)→Option R),i≤n→Inv i s→(∀ s',i<n→Inv (i+1) s'→Wp (K (s',(i:Int)+1)) P)→Wp (body (s,(i:Int)) K) P):Wp (loopGo body fuel (s0,0)) P:=by
 have go:∀ (f i:Nat) s,i≤n→n - i<f→Inv i s→Wp (loopGo body f (s,(i:Int))) P:=by
  intro f
  induction f with
  | zero=>intro i s _ h;omega
  | succ f ih=>intro i s hi hm hs;exact hb i s _ hi hs (fun s' hl h'=>ih (i+1) s' (by omega) (by omega) h')
 exact go fuel 0 s0 (by omega) (by omega) h0
end Go.Sp
end
/- More rules for plain laws. No program in sight. -/
section
set_option linter.all false
namespace Go.Sp
open Go.Av
theorem zam {R:Type} {n:Int} {x:Option R} {P:R→Prop} (h : -9223372036854775808≤n∧n≤9223372036854775807) (k:Wp x P):Wp (must (inI n) x) P:=zay h k
theorem zcf {R:Type} {n b:Nat} {x:Option R} {P:R→Prop} (h:n * b≤140737488355328∧n≤9223372036854775807) (k:Wp x P):Wp (must (room n b) x) P:=zay h k
theorem zlm {S R:Type} [Inhabited S] {W:Bool} {x:Option S} {k:S→Option R} {P:R→Prop} {Q:S→Prop} (h:W=true→Wp x Q) (hk:∀ s,(W=true→Q s)→Wp (k s) P):Wp (zao (bif W then x else some default) k) P:=by
 cases W
 · exact hk _ (fun h=>by cases h)
 · exact wp_bind (h rfl) (fun s hs=>hk s (fun _=>hs))
end Go.Sp
end
/- Rules for plain laws, more of them. No program in sight. -/
section
set_option linter.all false
namespace Go.Sp
open Go.Av
theorem zkw {R:Type} {body:Nat→Unit→(Unit→Option R)→Option R} {ex:Unit→Option R} {n:Nat} {P:R→Prop} (good:Nat→Prop)
 (hb:∀ (i:Nat) (K:Option R),i<n→(∀ j,j<i→good j)→(good i→Wp K P)→Wp (body i () (fun _=>K)) P) (he:(∀ j,j<n→good j)→Wp (ex ()) P):Wp (zas body ex n 0 ()) P:=by
 refine zey (fun i _=>∀ j,j<i→good j) (fun j hj=>by omega) (fun i s K hi hI hK=>?_) (fun s hs=>he hs)
 have e:K=fun _=>K ():=funext fun u=>rfl
 rw [e]
 exact hb i (K ()) hi hI (fun g=>hK () (fun j hj=>by
  by_cases e:j=i
  · rw [e];exact g
  · exact hI j (by omega)))
theorem zgc {R:Type} {c:Prop} [Decidable c] (h:c) (x:Option R):must c x=x:=if_pos h
theorem zmo {T:Type} (l:List T) (i j:Nat) (x d:T) (hi:i<l.length):(l.set i x).getD j d=if j=i then x else l.getD j d:=by
 simp only [List.getD_eq_getElem?_getD]
 by_cases e:j=i
 · subst e;rw [List.getElem?_set_self hi,if_pos rfl];rfl
 · rw [List.getElem?_set_ne (fun h=>e h.symm),if_neg e]
theorem zcn {T:Type} (l:List T) (x d:T) (i:Nat):(l++[x]).getD i d=if i=l.length then x else l.getD i d:=by
 simp only [List.getD_eq_getElem?_getD]
 rcases Nat.lt_trichotomy i l.length with h|h|h
 · rw [List.getElem?_append_left h,if_neg (by omega)]
 · subst h;simp
 · rw [if_neg (by omega),List.getElem?_eq_none (by simp;omega),List.getElem?_eq_none (by omega)]
theorem zcV {T:Type} [Inhabited T] {l:List T} {i:Nat} (h:i<l.length):l.getD i default∈l:=by
 rw [List.getD_eq_getElem?_getD,List.getElem?_eq_getElem h];exact List.getElem_mem h
theorem zdK {T:Type} [Inhabited T] {l:List T} {x:T} (h:x∈l):∃ i,i<l.length∧l.getD i default=x:=by
 obtain ⟨i,hi,rfl⟩:=List.getElem_of_mem h
 exact ⟨i,hi,by rw [List.getD_eq_getElem?_getD,List.getElem?_eq_getElem hi];rfl⟩
theorem getD_drop {T:Type} (l:List T) (n i:Nat) (d:T):(l.drop n).getD i d=l.getD (n+i) d:=by
 simp only [List.getD_eq_getElem?_getD,List.getElem?_drop]
theorem zen {T:Type} (l r:List T) (i:Nat) (d:T):(l++r).getD i d=if i<l.length then l.getD i d else r.getD (i - l.length) d:=by
 simp only [List.getD_eq_getElem?_getD]
 split
 · rename_i h;rw [List.getElem?_append_left h]
 · rename_i h;rw [List.getElem?_append_right (by omega)]
theorem zpa {T:Type} [Inhabited T] {l r:List T} (hl:l.length=r.length) (h:∀ i,i<l.length→l.getD i default=r.getD i default):l=r:=by
 refine List.ext_getElem hl (fun i h1 h2=>?_)
 have:=h i h1
 rw [List.getD_eq_getElem?_getD,List.getD_eq_getElem?_getD,List.getElem?_eq_getElem h1,List.getElem?_eq_getElem h2] at this
 exact this
theorem zm3 {A:Type} {body:Nat→Unit→(Unit→Option (List A))→Option (List A)} {n:Nat} (W:Nat→Bool) (x:Nat→A)
 (hb:∀ (i:Nat) (r:Option (List A)),i<n→body i () (fun _=>r)=zjA (W i) (x i) r):zas body (fun _=>some []) n 0 ()=some (((List.range' 0 n).filter W).map x):=by
 have go:∀ m i,i+m=n→zas body (fun _=>some []) m i ()=some (((List.range' i m).filter W).map x):=by
  intro m
  induction m with
  | zero=>intro i _;rfl
  | succ m ih=>
   intro i hi
   have e:zas body (fun _=>some []) (m+1) i ()=body i () (fun u=>zas body (fun _=>some []) m (i+1) u):=rfl
   rw [e]
   have e2:(fun u=>zas body (fun _=>some ([]:List A)) m (i+1) u)=fun _=>some (((List.range' (i+1) m).filter W).map x):=by
    funext u;exact ih (i+1) (by omega)
   rw [e2,hb i _ (by omega),List.range'_succ,List.filter_cons]
   cases W i <;> rfl
 exact go n 0 (by omega)
end Go.Sp
end
/- Binary search, and insertion into a sorted list. No program in sight. -/
section
set_option linter.all false
namespace Go.Sp
open Go.Av
theorem zm8 {T:Type} [Inhabited T] (f:T→Int) {l:List T} (h:∀ i,0<i→i<l.length→f (l.getD (i - 1) default)<f (l.getD i default)):l.Pairwise (fun a b=>f a<f b):=by
 rw [List.pairwise_iff_getElem]
 intro i j hi hj hij
 have step:∀ k,i+1+k<l.length→f l[i]<f (l.getD (i+1+k) default):=by
  intro k
  induction k with
  | zero=>
   intro hk
   have:=h (i+1) (by omega) hk
   have e:l.getD (i+1 - 1) default=l[i]:=by simp [List.getElem?_eq_getElem hi]
   rw [e] at this;exact this
  | succ k ih=>
   intro hk
   have h1:=ih (by omega)
   have h2:=h (i+1+(k+1)) (by omega) hk
   have e:i+1+(k+1) - 1=i+1+k:=by omega
   rw [e] at h2;omega
 have:=step (j - i - 1) (by omega)
 have e:i+1+(j - i - 1)=j:=by omega
 rw [e] at this
 simpa [List.getElem?_eq_getElem hj] using this
theorem zkz {T:Type} [Inhabited T] {f:T→Int} {l:List T} (hs:l.Pairwise (fun a b=>f a<f b)) {i j:Nat} (hij:i<j) (hj:j<l.length):f (l.getD i default)<f (l.getD j default):=by
 have:=List.pairwise_iff_getElem.1 hs i j (by omega) hj hij
 simpa [List.getElem?_eq_getElem hj,List.getElem?_eq_getElem (show i<l.length by omega)] using this
end Go.Sp
end
/- slices.IndexFunc and slices.DeleteFunc, as they are printed. No program in sight. -/
section
set_option linter.all false
namespace Go.Sp
open Go.Av
set_option maxRecDepth 100000
theorem zfJ {T:Type} [Inhabited T] {p:T→Option Bool} {q:T→Bool} (hp:∀ x,p x=some (q x)) (l:List T) :
 (zas (fun i1 (s1:Unit) k1=>zao (p (l.getD i1 default)) fun y3=>(bif y3 then some (i1:Int) else k1 ())) (fun (s1:Unit)=>some (-1)) l.length 0 ():Option Int)=some (match l.findIdx? q with|some i=>(i:Int)|none=>-1):=by
 refine (zkw (P:=fun r=>r=(match l.findIdx? q with|some i=>(i:Int)|none=>-1)) (fun i=>q (l.getD i default)=false) (fun i K hi hb hK=>?_) (fun h1=>?_)).eq
 · rw [hp]
   refine zcz (fun h=>zaC ?_) (fun h=>hK h)
   have:l.findIdx? q=some i:=by
    rw [List.findIdx?_eq_some_iff_getElem]
    refine ⟨hi,?_,fun j hj=>?_⟩
    · rw [List.getD_eq_getElem?_getD,List.getElem?_eq_getElem hi] at h;exact h
    · have:=hb j hj
      rw [List.getD_eq_getElem?_getD,List.getElem?_eq_getElem (by omega)] at this
      simpa using this
   rw [this]
 · refine zaC ?_
   have:l.findIdx? q=none:=by
    rw [List.findIdx?_eq_none_iff]
    intro x hx
    obtain ⟨i,hi,rfl⟩:=zdK hx
    exact h1 i hi
   rw [this]
end Go.Sp
end
/- Plain laws, mantle: valid batches, mantles, burns, looks and wears, checked by both. No program in sight. -/
section
set_option linter.all false
namespace Go.Sp
open Go.Av
set_option maxRecDepth 100000
structure BatchOk (b:Batch):Prop where
 id:1≤b.Id∧b.Id≤99
 life:0≤b.Life.Lo∧b.Life.Lo≤b.Life.Hi∧b.Life.Hi≤1000000
structure ToldOk (s l n k u:Int):Prop where
 src:1≤s∧s≤99999
 lamp:1≤l∧l≤999
 night:0≤n∧n≤100000
 known:0≤k∧k≤100000
 til:u=0∨(k<u∧u≤100000)
structure MantleOk (m:Mantle):Prop where
 told:ToldOk m.Source m.Lamp m.Night m.Known m.Until
 batch:1≤m.Batch∧m.Batch≤99
structure BurnOk (b:Burn):Prop where
 told:ToldOk b.Source b.Lamp b.Night b.Known b.Until
 min:0≤b.Minutes.Lo∧b.Minutes.Lo≤b.Minutes.Hi∧b.Minutes.Hi≤1440
def zjJ (l:Look):Prop:=ToldOk l.Source l.Lamp l.Night l.Known l.Until
theorem mwithin {a b c:Int}:zaJ a b c=(decide (b≤a) && decide (a≤c)):=rfl
theorem bif0 (b:Bool) {c:Int} (hc:c≠0):((bif b then c else 0)=0)↔b=false:=by cases b <;> simp [-List.getD_eq_getElem?_getD,hc]
theorem zor (b:Bool) (c:Int):(bif b then c else 0)=0∨(bif b then c else 0)=c:=by cases b <;> simp [-List.getD_eq_getElem?_getD]
theorem zf3 {n k u:Int}:za1 n k u=true↔(0≤n∧n≤100000)∧(0≤k∧k≤100000)∧(u=0∨(k<u∧u≤100000)):=by
 simp only [za1,zaK,mwithin,Bool.and_eq_true,Bool.or_eq_true,decide_eq_true_eq]
 omega
theorem ziG {b:Batch}:zaV b=0↔BatchOk b:=by
 unfold zaV
 rw [bif0 _ (by decide)]
 simp only [zby,mwithin,Bool.or_eq_false_iff,Bool.not_eq_false',Bool.and_eq_true,decide_eq_true_eq]
 exact ⟨fun h=>⟨h.1,by omega⟩,fun h=>⟨h.id,by have:=h.life;omega⟩⟩
theorem zkM {m:Mantle}:za7 m=0↔MantleOk m:=by
 unfold za7
 rw [bif0 _ (by decide)]
 simp only [zaZ,zaN,mwithin,Bool.or_eq_false_iff,Bool.not_eq_false',Bool.and_eq_true,decide_eq_true_eq,zf3]
 exact ⟨fun h=>⟨⟨h.1.1.1,h.1.1.2,h.2.1,h.2.2.1,h.2.2.2⟩,h.1.2⟩,fun h=>⟨⟨⟨h.told.src,h.told.lamp⟩,h.batch⟩,h.told.night,h.told.known,h.told.til⟩⟩
theorem zmT {m:Burn}:zbo m=0↔BurnOk m:=by
 unfold zbo
 rw [bif0 _ (by decide)]
 simp only [zaZ,zaN,zby,mwithin,Bool.or_eq_false_iff,Bool.not_eq_false',Bool.and_eq_true,decide_eq_true_eq,zf3]
 exact ⟨fun h=>⟨⟨h.1.1.1,h.1.1.2,h.2.1,h.2.2.1,h.2.2.2⟩,by have:=h.1.2;omega⟩,fun h=>⟨⟨⟨h.told.src,h.told.lamp⟩,by have:=h.min;omega⟩,h.told.night,h.told.known,h.told.til⟩⟩
theorem zmS {m:Look}:za2 m=0↔zjJ m:=by
 unfold za2
 rw [bif0 _ (by decide)]
 simp only [zaZ,zaN,mwithin,Bool.or_eq_false_iff,Bool.not_eq_false',Bool.and_eq_true,decide_eq_true_eq,zf3]
 exact ⟨fun h=>⟨h.1.1,h.1.2,h.2.1,h.2.2.1,h.2.2.2⟩,fun h=>⟨⟨h.src,h.lamp⟩,h.night,h.known,h.til⟩⟩
theorem zpK (b:Batch):zbd b=zaV b:=by
 have h:zbd b=0↔BatchOk b:=by
  unfold zbd
  rw [bif0 _ (by decide)]
  simp only [zaD,Bool.or_eq_false_iff,Bool.not_eq_false',Bool.and_eq_true,decide_eq_true_eq,decide_eq_false_iff_not]
  exact ⟨fun h=>⟨h.1.1,by omega⟩,fun h=>⟨⟨h.id,by have:=h.life;omega⟩,by have:=h.life;omega⟩⟩
 rw [← ziG] at h
 have h1:=zor (((!(zaD b.Id 1 99)) || (!(zaD b.Life.Lo 0 b.Life.Hi))) || (decide (1000000<b.Life.Hi))) 60
 have h2:=zor ((!(zaJ b.Id 1 99)) || (!(zby b.Life 1000000))) 60
 change zbd b=0∨zbd b=60 at h1
 change zaV b=0∨zaV b=60 at h2
 omega
def zfm {T:Type} [Inhabited T] (ok:T→Prop) (num:T→Int) (l:List T):Prop:=∀ i,i<l.length→ok (l.getD i default)∧(0<i→num (l.getD (i - 1) default)<num (l.getD i default))
theorem zgk {T:Type} [Inhabited T] {chk num:T→Int} {ok:T→Prop} (hok:∀ x,chk x=0↔ok x) {l:List T} {p1:Int} (hl:l.length≤9223372036854775807) :
 Wp (zas (fun i1 (s1:Unit) k1=>zao ((fun x0=>some (chk x0)) (l.getD i1 default)) fun y3=>must ((((!(!decide (y3=0))) && (decide (0<(i1:Int))))=true→(inI ((i1:Int) - 1)))) <| must ((((!(!decide (y3=0))) && (decide (0<(i1:Int))))=true→(0≤(((i1:Int) - 1):Int)∧(((i1:Int) - 1):Int)<((l.length:Nat):Int)))) <| zao ((bif ((!(!decide (y3=0))) && (decide (0<(i1:Int)))) then (fun x0=>some (num x0)) (l.getD (((i1:Int) - 1)).toNat default) else some default)) fun y7=>zao ((bif ((!(!decide (y3=0))) && (decide (0<(i1:Int)))) then (fun x0=>some (num x0)) (l.getD i1 default) else some default)) fun y9=>(bif ((!decide (y3=0)) || ((decide (0<(i1:Int))) && (decide (y9≤y7)))) then some false else k1 ())) (fun (s1:Unit)=>some (decide (((l.length:Nat):Int)≤p1))) l.length 0 ():Option Bool)
  (fun b=>b=true↔zfm ok num l∧(l.length:Int)≤p1):=by
 refine zkw (fun i=>ok (l.getD i default)∧(0<i→num (l.getD (i - 1) default)<num (l.getD i default))) (fun i K hi _ hK=>?_) (fun h1=>zaC ?_)
 · refine zaP rfl ?_
   refine zay (fun _=>by unfold inI;omega) ?_
   refine zay (fun h=>by simp [-List.getD_eq_getElem?_getD] at h;omega) ?_
   have e:(((i:Int) - 1)).toNat=i - 1:=by omega
   rw [e]
   refine zlm (Q:=fun y=>y=num (l.getD (i - 1) default)) (fun _=>zaC rfl) (fun y7 h7=>?_)
   refine zlm (Q:=fun y=>y=num (l.getD i default)) (fun _=>zaC rfl) (fun y9 h9=>?_)
   by_cases hc:chk (l.getD i default)=0
   · by_cases h0:0<i
     · have hW:((!(!decide (chk (l.getD i default)=0))) && (decide (0<(i:Int))))=true:=by simp [-List.getD_eq_getElem?_getD,hc,h0]
       rw [h7 hW,h9 hW]
       refine zcz (fun hb=>zaC ?_) (fun hb=>hK ⟨(hok _).1 hc,fun _=>?_⟩)
       · simp only [hc,decide_true,Bool.not_true,Bool.false_or,Bool.and_eq_true,decide_eq_true_eq] at hb
         refine ⟨fun h=>(by cases h),fun h=>?_⟩
         have:=(h.1 i hi).2 h0;omega
       · simp only [hc,decide_true,Bool.not_true,Bool.false_or,Bool.and_eq_false_iff,decide_eq_false_iff_not] at hb
         omega
     · refine zcO (by simp [-List.getD_eq_getElem?_getD,hc];omega) (hK ⟨(hok _).1 hc,fun h=>absurd h h0⟩)
   · refine zef (by simp [-List.getD_eq_getElem?_getD,hc]) (zaC ⟨fun h=>(by cases h),fun h=>absurd ((hok _).2 (h.1 i hi).1) hc⟩)
 · simp only [decide_eq_true_eq]
   exact ⟨fun h=>⟨h1,h⟩,fun h=>h.2⟩
structure WearOk (w:Wear):Prop where
 nb:w.Batches.length≤8
 nm:w.Mantles.length≤60
 nu:w.Burns.length≤60
 nl:w.Looks.length≤60
 ba:zfm BatchOk (·.Id) w.Batches
 ma:zfm MantleOk (·.Source) w.Mantles
 bu:zfm BurnOk (·.Source) w.Burns
 lo:zfm zjJ (·.Source) w.Looks
 has:∀ i,i<w.Mantles.length→∃ j,j<w.Batches.length∧(w.Batches.getD j default).Id=(w.Mantles.getD i default).Batch
structure Fits (w:Wear):Prop where
 b:w.Batches.length≤4611686018427387904
 m:w.Mantles.length≤4611686018427387904
 u:w.Burns.length≤4611686018427387904
 l:w.Looks.length≤4611686018427387904
theorem WearOk.fits {w:Wear} (h:WearOk w):Fits w:=⟨by have:=h.nb;omega,by have:=h.nm;omega,by have:=h.nu;omega,by have:=h.nl;omega⟩
def zdX (w:Wear) (id:Int):Int:=match w.Batches.findIdx? (fun b=>decide (b.Id=id)) with
 | some i=>(i:Int)
 | none=>-1
theorem zhK (w:Wear) (id:Int):zbL w id=some (zdX w id):=by
 unfold zbL zbR
 rw [zfJ (p:=fun x0=>some (zbS x0 id)) (q:=fun b=>decide (b.Id=id)) (fun x=>rfl)]
 rfl
theorem zhL {w:Wear} {id:Int}:zdX w id<0↔¬ ∃ j,j<w.Batches.length∧(w.Batches.getD j default).Id=id:=by
 unfold zdX
 cases h:w.Batches.findIdx? (fun b=>decide (b.Id=id)) with
 | none=>
  rw [List.findIdx?_eq_none_iff] at h
  simp only [Int.reduceNeg,Int.reduceLT,true_iff]
  rintro ⟨j,hj,e⟩
  have:=h _ (zcV hj)
  simp [-List.getD_eq_getElem?_getD,e] at this
 | some i=>
  rw [List.findIdx?_eq_some_iff_getElem] at h
  obtain ⟨h1,h2,h3⟩:=h
  refine ⟨fun h=>by simp [-List.getD_eq_getElem?_getD] at h;omega,fun h=>absurd ⟨i,h1,?_⟩ h⟩
  rw [List.getD_eq_getElem?_getD,List.getElem?_eq_getElem h1]
  simpa [-List.getD_eq_getElem?_getD] using h2
theorem zos (w:Wear) (id:Int):zdX w id<(w.Batches.length:Int):=by
 unfold zdX
 cases h:w.Batches.findIdx? (fun b=>decide (b.Id=id)) with
 | none=>simp [-List.getD_eq_getElem?_getD];omega
 | some i=>
  rw [List.findIdx?_eq_some_iff_getElem] at h
  obtain ⟨h1,h2,h3⟩:=h
  simp [-List.getD_eq_getElem?_getD];omega
theorem zot {w:Wear} {id:Int} (h:0≤zdX w id):(w.Batches.getD (zdX w id).toNat default).Id=id:=by
 unfold zdX at h ⊢
 cases h':w.Batches.findIdx? (fun b=>decide (b.Id=id)) with
 | none=>rw [h'] at h;simp [-List.getD_eq_getElem?_getD] at h
 | some i=>
  rw [List.findIdx?_eq_some_iff_getElem] at h'
  obtain ⟨h1,h2,h3⟩:=h'
  simp only [Int.toNat_natCast]
  rw [List.getD_eq_getElem?_getD,List.getElem?_eq_getElem h1]
  simpa [-List.getD_eq_getElem?_getD] using h2
theorem zfm.sorted {T:Type} [Inhabited T] {ok:T→Prop} {num:T→Int} {l:List T} (h:zfm ok num l):l.Pairwise (fun a b=>num a<num b):=zm8 num (fun i h0 hi=>(h i hi).2 h0)
theorem zfm.ok {T:Type} [Inhabited T] {ok:T→Prop} {num:T→Int} {l:List T} (h:zfm ok num l) {x:T} (hx:x∈l):ok x:=by
 obtain ⟨i,hi,rfl⟩:=zdK hx
 exact (h i hi).1
theorem zfm.inj {T:Type} [Inhabited T] {ok:T→Prop} {num:T→Int} {l:List T} (h:zfm ok num l) {i j:Nat} (hi:i<l.length) (hj:j<l.length) (e:num (l.getD i default)=num (l.getD j default)):i=j:=by
 rcases Nat.lt_trichotomy i j with h1|h1|h1
 · have:=zkz h.sorted h1 hj;omega
 · exact h1
 · have:=zkz h.sorted h1 hi;omega
theorem znF {w:Wear} (hf:Fits w):Wp (zbZ w) (fun r=>(WearOk w∧r=0)∨(¬ WearOk w∧r=64)):=by
 unfold zbZ
 have a1:=zgk (chk:=zaV) (num:=zcr) (fun _=>ziG) (l:=w.Batches) (p1:=8) (by have:=hf.b;omega)
 have a2:=zgk (chk:=za7) (num:=zcq) (fun _=>zkM) (l:=w.Mantles) (p1:=60) (by have:=hf.m;omega)
 have a3:=zgk (chk:=zbo) (num:=zcp) (fun _=>zmT) (l:=w.Burns) (p1:=60) (by have:=hf.u;omega)
 have a4:=zgk (chk:=za2) (num:=zcT) (fun _=>zmS) (l:=w.Looks) (p1:=60) (by have:=hf.l;omega)
 refine wp_bind (x:=zb5 w.Batches 8 _ _) a1 (fun y1 h1=>?_)
 refine wp_bind (x:=zbY w.Mantles 60 _ _) a2 (fun y3 h3=>?_)
 refine wp_bind (x:=zci w.Burns 60 _ _) a3 (fun y5 h5=>?_)
 refine zlm (Q:=fun y=>y=true↔zfm zjJ (·.Source) w.Looks∧(w.Looks.length:Int)≤60) (fun _=>a4) (fun y7 h7=>?_)
 refine zlm (Q:=fun y=>y=false↔∀ i,i<w.Mantles.length→∃ j,j<w.Batches.length∧(w.Batches.getD j default).Id=(w.Mantles.getD i default).Batch) (fun _=>?_) (fun y9 h9=>?_)
 · unfold zbr zbH
   rw [zfJ (p:=fun x0=>zco x0 w) (q:=fun m=>decide (zdX w m.Batch<0)) (fun x=>by
    unfold zco;rw [zhK];rfl)]
   refine zaP rfl (zaC ?_)
   cases h:w.Mantles.findIdx? (fun m=>decide (zdX w m.Batch<0)) with
   | none=>
    rw [List.findIdx?_eq_none_iff] at h
    refine ⟨fun _ i hi=>?_,fun _=>rfl⟩
    have:=h _ (zcV hi)
    simp only [decide_eq_false_iff_not,zhL,Classical.not_not] at this
    exact this
   | some i=>
    rw [List.findIdx?_eq_some_iff_getElem] at h
    obtain ⟨k1,k2,k3⟩:=h
    refine ⟨fun e=>(by simp [-List.getD_eq_getElem?_getD] at e),fun e=>?_⟩
    have:=e i k1
    rw [List.getD_eq_getElem?_getD (l:=w.Mantles),List.getElem?_eq_getElem k1] at this
    simp only [decide_eq_true_eq,zhL] at k2
    exact absurd this k2
 · refine zcz (fun hb=>zaC (.inr ⟨fun V=>?_,rfl⟩)) (fun hb=>zaC (.inl ⟨?_,rfl⟩))
   · have e1:=h1.2 ⟨V.ba,by have:=V.nb;omega⟩
     have e3:=h3.2 ⟨V.ma,by have:=V.nm;omega⟩
     have e5:=h5.2 ⟨V.bu,by have:=V.nu;omega⟩
     have e7:=(h7 (by simp [-List.getD_eq_getElem?_getD,e1,e3,e5])).2 ⟨V.lo,by have:=V.nl;omega⟩
     have e9:=(h9 (by simp [-List.getD_eq_getElem?_getD,e1,e3,e5,e7])).2 V.has
     simp [-List.getD_eq_getElem?_getD,e1,e3,e5,e7,e9] at hb
   · simp only [Bool.or_eq_false_iff,Bool.not_eq_false'] at hb
     obtain ⟨⟨⟨⟨e1,e3⟩,e5⟩,e7⟩,e9⟩:=hb
     have f7:=(h7 (by simp [-List.getD_eq_getElem?_getD,e1,e3,e5])).1 e7
     have f9:=(h9 (by simp [-List.getD_eq_getElem?_getD,e1,e3,e5,e7])).1 e9
     have f1:=h1.1 e1
     have f3:=h3.1 e3
     have f5:=h5.1 e5
     exact ⟨by omega,by omega,by omega,by omega,f1.1,f3.1,f5.1,f7.1,f9⟩
theorem ziF {w:Wear} (h:WearOk w):zbZ w=some 0:=by
 obtain ⟨r,e,h1|h1⟩:=znF h.fits
 · rw [e,h1.2]
 · exact absurd h h1.1
end Go.Sp
end
/- Plain laws, mantle: the document's check; one look more, by both; MantleChecks. No program in sight. -/
section
set_option linter.all false
namespace Go.Sp
open Go.Av
set_option maxRecDepth 100000
theorem znb {R:Type} {body:Int→(Int→Option R)→Option R} {fuel:Nat} {P:R→Prop} {n:Nat} (hf:n<fuel) (good:Nat→Prop)
 (hb:∀ (i:Nat) (K:Int→Option R),i<n→(∀ j,j<i→good j)→(good i→Wp (K ((i:Int)+1)) P)→Wp (body (i:Int) K) P) (he:(∀ j,j<n→good j)→∀ K,Wp (body (n:Int) K) P):Wp (loopGo body fuel 0) P:=by
 refine zpC n hf (fun i=>∀ j,j<i→good j) (fun j hj=>by omega) (fun i K hi hI hK=>?_)
 by_cases e:i=n
 · subst e;exact he hI K
 · exact hb i K (by omega) hI (fun g=>hK (by omega) (fun j hj=>by
    by_cases e:j=i
    · rw [e];exact g
    · exact hI j (by omega)))
end Go.Sp
end
/- Plain laws, mantle: the chapter's examples. -/
section
set_option linter.all false
namespace Go.Sp
open Go.Av
theorem znh:zdv 20000=some true:=by kernel_rfl
end Go.Sp
end
/- Plain laws, mantle: one look more, by both; MantleChecks. No program in sight. -/
section
set_option linter.all false
namespace Go.Sp
open Go.Av
set_option maxRecDepth 100000
theorem cmpI (a b:Int):zbm a b=if a<b then -1 else if b<a then 1 else 0:=by
 unfold zbm cmp_isNaN_int
 by_cases h1:a<b
 · simp [-List.getD_eq_getElem?_getD,h1]
 · by_cases h2:b<a <;> simp [-List.getD_eq_getElem?_getD,h1,h2]
structure InsAt (l:List Look) (x:Look) (k:Nat):Prop where
 le:k≤l.length
 lo:∀ i,i<k→(l.getD i default).Source<x.Source
 hi:∀ i,k≤i→i<l.length→¬ (l.getD i default).Source<x.Source
def zoh:Wear:=⟨[],[],[],[]⟩
end Go.Sp
end
/- Plain laws: slices.SortStableFunc on ints ends, and what it leaves is a rearrangement. No program in sight. -/
section
set_option linter.all false
namespace Go.Sp
open Go.Av
set_option maxRecDepth 100000
theorem swap_perm {l s:List Int} (h:s.Perm l) {i j:Int} (hi:0≤i∧i<(s.length:Int)) (hj:0≤j∧j<(s.length:Int)) :
 ((s.set i.toNat (s.getD j.toNat default)).set j.toNat (s.getD i.toNat default)).Perm l:=by
 have h1:i.toNat<s.length:=by omega
 have h2:j.toNat<s.length:=by omega
 rw [List.getD_eq_getElem?_getD,List.getElem?_eq_getElem h2,List.getD_eq_getElem?_getD,List.getElem?_eq_getElem h1]
 exact (List.set_set_perm h1 h2).trans h
theorem half {x:Int} (h:0≤x):Int.fdiv x (2 ^ (1:Int).toNat)=x / 2:=by
 rw [show (1:Int).toNat=1 from rfl,Int.fdiv_eq_ediv_of_nonneg _ (by decide)];rfl
theorem ziE {l s:List Int} (h:s.Perm l) {i:Nat} (hi:i<s.length):s.getD i default∈l:=h.mem_iff.1 (zcV hi)
def Cmp (l:List Int) (c:Int→Int→Option Int):Prop:=∀ a∈l,∀ b∈l,∃ r,c a b=some r
theorem Cmp.perm {l s:List Int} {c:Int→Int→Option Int} (H:Cmp l c) (h:s.Perm l):Cmp s c:=fun a ha b hb=>H a (h.mem_iff.1 ha) b (h.mem_iff.1 hb)
theorem zh1 {fuel:Nat} (hf:1000≤fuel) {l:List Int} (hl:l.length≤100) {c:Int→Int→Option Int} (H:Cmp l c) {a b:Int} (ha:0≤a∧a≤1000) (hb:b≤(l.length:Int)) :
 Wp (zaM fuel l a b c) (fun r=>r.Perm l):=by
 unfold zaM
 refine zam (by omega) ?_
 refine wp_loop (fun s=>a<s.1∧s.2.Perm l) (fun s=>(b - s.1).toNat) (by simp only;omega) ⟨by simp only;omega,.refl _⟩ (fun s K hI hK=>?_)
 obtain ⟨i,s⟩:=s
 obtain ⟨h1,h2⟩:=hI
 simp only at h1 h2 hK ⊢
 refine zck (fun hlt=>?_) (fun _=>zaC h2)
 refine wp_loop (fun t=>a≤t.1∧t.1≤i∧t.2.Perm l) (fun t=>(t.1 - a).toNat) (by simp only;omega) ⟨by simp only;omega,by simp only;omega,h2⟩ (fun t K2 hI2 hK2=>?_)
 obtain ⟨j,t⟩:=t
 obtain ⟨g1,g2,g3⟩:=hI2
 simp only at g1 g2 g3 hK2 ⊢
 have hlen:=g3.length_eq
 refine zay (fun h=>by have:=of_decide_eq_true h;omega) (zay (fun h=>by unfold inI;omega) (zay (fun h=>by have:=of_decide_eq_true h;omega) ?_))
 refine zlm (Q:=fun _=>True) (fun h=>?_) (fun y _=>?_)
 · have:=of_decide_eq_true h
   obtain ⟨r,e⟩:=H _ (ziE g3 (i:=j.toNat) (by omega)) _ (ziE g3 (i:=(j - 1).toNat) (by omega))
   exact ⟨r,e,trivial⟩
 refine zcz (fun h=>?_) (fun h=>zam (by omega) (hK _ ⟨by simp only;omega,g3⟩ (by simp only;omega)))
 simp only [Bool.and_eq_true,decide_eq_true_eq] at h
 refine zam (by omega) (zam (by omega) (zay (by omega) (zay (by omega) (zay (by omega) (zay (by rw [List.length_set];omega) (zam (by omega) ?_))))))
 exact hK2 _ ⟨by simp only;omega,by simp only;omega,swap_perm g3 (by omega) (by omega)⟩ (by simp only;omega)
theorem zfv {fuel:Nat} (hf:1000≤fuel) {l:List Int} (hl:l.length≤100) {c:Int→Int→Option Int} {a b n:Int} (ha:0≤a) (hb:0≤b) (han:a+n≤(l.length:Int)) (hbn:b+n≤(l.length:Int)) :
 Wp (zaO fuel l a b n c) (fun r=>r.Perm l):=by
 unfold zaO
 refine wp_loop (fun s=>0≤s.1∧s.2.Perm l) (fun s=>(n - s.1).toNat) (by simp only;omega) ⟨by simp [-List.getD_eq_getElem?_getD],.refl _⟩ (fun s K hI hK=>?_)
 obtain ⟨i,s⟩:=s
 obtain ⟨h1,h2⟩:=hI
 simp only at h1 h2 hK ⊢
 have hlen:=h2.length_eq
 refine zck (fun hlt=>?_) (fun _=>zaC h2)
 refine zam (by omega) (zam (by omega) (zam (by omega) (zay (by omega) (zam (by omega) (zay (by omega) (zay (by omega) (zay (by rw [List.length_set];omega) (zam (by omega) ?_))))))))
 exact hK _ ⟨by simp only;omega,swap_perm h2 (by omega) (by omega)⟩ (by simp only;omega)
theorem znm {fuel:Nat} (hf:1000≤fuel) {l:List Int} (hl:l.length≤100) {c:Int→Int→Option Int} {a m b:Int} (ha:0≤a) (ham:a<m) (hmb:m<b) (hb:b≤(l.length:Int)) :
 Wp (za4 fuel l a m b c) (fun r=>r.Perm l):=by
 unfold za4
 refine zam (by omega) (zam (by omega) ?_)
 refine wp_loop (fun s=>1≤s.1∧s.1≤m - a∧1≤s.2.1∧s.2.1≤b - m∧s.2.2.Perm l) (fun s=>(s.1+s.2.1).toNat) (by simp only;omega) ⟨by simp only;omega,by simp only;omega,by simp only;omega,by simp only;omega,.refl _⟩ (fun s K hI hK=>?_)
 obtain ⟨i,j,s⟩:=s
 obtain ⟨h1,h2,h3,h4,h5⟩:=hI
 simp only at h1 h2 h3 h4 h5 hK ⊢
 have hlen:=h5.length_eq
 refine zgs (fun hne=>?_) (fun he=>?_)
 · refine zck (fun hlt=>?_) (fun hge=>?_)
   · refine zam (by omega) (wp_bind (zfv hf (by omega) (by omega) (by omega) (by omega) (by omega)) (fun y hy=>zay hy.length_eq (zam (by omega) (hK _ ⟨by simp only;omega,by simp only;omega,by simp only;omega,by simp only;omega,hy.trans h5⟩ (by simp only;omega)))))
   · refine zam (by omega) (zam (by omega) (zam (by omega) (wp_bind (zfv hf (by omega) (by omega) (by omega) (by omega) (by omega)) (fun y hy=>zay hy.length_eq (zam (by omega) (hK _ ⟨by simp only;omega,by simp only;omega,by simp only;omega,by simp only;omega,hy.trans h5⟩ (by simp only;omega)))))))
 · exact zam (by omega) (wp_bind (zfv hf (by omega) (by omega) (by omega) (by omega) (by omega)) (fun y hy=>zaC (hy.trans h5)))
theorem ze2 {fuel:Nat} (hf:1000≤fuel) {c:Int→Int→Option Int}:∀ (n:Nat) {l:List Int},l.length≤100→Cmp l c→∀ {a m b:Int},0≤a→a<m→m<b→b≤(l.length:Int)→(b - a).toNat<n →
 Wp (zaQ fuel n l a m b c) (fun r=>r.Perm l)
 | 0,l,_,_,a,m,b,_,_,_,_,hn=>absurd hn (Nat.not_lt_zero _)
 | n+1,l,hl,H,a,m,b,ha,ham,hmb,hb,hn=>by
  show Wp (zaX fuel (zaQ fuel n) l a m b c) _
  unfold zaX
  have hc:∀ i j:Int,0≤i→i<(l.length:Int)→0≤j→j<(l.length:Int)→Wp (c (l.getD i.toNat default) (l.getD j.toNat default)) (fun _=>True):=fun i j h1 h2 h3 h4=>by
   obtain ⟨r,e⟩:=H _ (zcV (l:=l) (i:=i.toNat) (by omega)) _ (zcV (l:=l) (i:=j.toNat) (by omega))
   exact ⟨r,e,trivial⟩
  refine zam (by omega) ?_
  refine zck (fun e1=>?_) (fun e1=>?_)
  · refine wp_loop (fun s=>m≤s.1∧s.1≤s.2∧s.2≤b) (fun s=>(s.2 - s.1).toNat) (by simp only;omega) ⟨by simp only;omega,by simp only;omega,by simp [-List.getD_eq_getElem?_getD]⟩ (fun s K hI hK=>?_)
    obtain ⟨i,j⟩:=s
    obtain ⟨h1,h2,h3⟩:=hI
    simp only at h1 h2 h3 hK ⊢
    refine zck (fun hlt=>?_) (fun hge=>?_)
    · rw [half (by omega)]
      refine zam (by omega) (zay (by unfold inU;omega) (zam (by omega) (zay (by omega) (zay (by omega) (wp_bind (hc _ _ (by omega) (by omega) (by omega) (by omega)) (fun y _=>?_))))))
      refine zck (fun _=>zam (by omega) (hK _ ⟨by simp only;omega,by simp only;omega,by simp only;omega⟩ (by simp only;omega))) (fun _=>hK _ ⟨by simp only;omega,by simp only;omega,by simp only;omega⟩ (by simp only;omega))
    · refine wp_loop (fun s=>0≤s.1∧s.2.Perm l) (fun s=>(b - s.1).toNat) (by simp only;omega) ⟨by simp only;omega,.refl _⟩ (fun s K2 hI2 hK2=>?_)
      obtain ⟨k,s⟩:=s
      obtain ⟨g1,g2⟩:=hI2
      simp only at g1 g2 hK2 ⊢
      have hlen:=g2.length_eq
      refine zam (by omega) (zck (fun hk=>?_) (fun _=>zaC g2))
      refine zam (by omega) (zam (by omega) (zay (by omega) (zay (by omega) (zay (by omega) (zay (by rw [List.length_set];omega) (zam (by omega) ?_))))))
      exact hK2 _ ⟨by simp only;omega,swap_perm g2 (by omega) (by omega)⟩ (by simp only;omega)
  refine zam (by omega) ?_
  refine zck (fun e2=>?_) (fun e2=>?_)
  · refine wp_loop (fun s=>a≤s.1∧s.1≤s.2∧s.2≤m) (fun s=>(s.2 - s.1).toNat) (by simp only;omega) ⟨by simp [-List.getD_eq_getElem?_getD],by simp only;omega,by simp [-List.getD_eq_getElem?_getD]⟩ (fun s K hI hK=>?_)
    obtain ⟨i,j⟩:=s
    obtain ⟨h1,h2,h3⟩:=hI
    simp only at h1 h2 h3 hK ⊢
    refine zck (fun hlt=>?_) (fun hge=>?_)
    · rw [half (by omega)]
      refine zam (by omega) (zay (by unfold inU;omega) (zam (by omega) (zay (by omega) (zay (by omega) (wp_bind (hc _ _ (by omega) (by omega) (by omega) (by omega)) (fun y _=>?_))))))
      refine zgs (fun _=>zam (by omega) (hK _ ⟨by simp only;omega,by simp only;omega,by simp only;omega⟩ (by simp only;omega))) (fun _=>hK _ ⟨by simp only;omega,by simp only;omega,by simp only;omega⟩ (by simp only;omega))
    · refine wp_loop (fun s=>s.1≤m∧s.2.Perm l) (fun s=>(s.1 - i).toNat) (by simp only;omega) ⟨by simp [-List.getD_eq_getElem?_getD],.refl _⟩ (fun s K2 hI2 hK2=>?_)
      obtain ⟨k,s⟩:=s
      obtain ⟨g1,g2⟩:=hI2
      simp only at g1 g2 hK2 ⊢
      have hlen:=g2.length_eq
      refine zck (fun hk=>?_) (fun _=>zaC g2)
      refine zam (by omega) (zam (by omega) (zay (by omega) (zay (by omega) (zay (by omega) (zay (by rw [List.length_set];omega) (zam (by omega) ?_))))))
      exact hK2 _ ⟨by simp only;omega,swap_perm g2 (by omega) (by omega)⟩ (by simp only;omega)
  rw [half (by omega)]
  refine zam (by omega) (zay (by unfold inU;omega) (zam (by omega) (zam (by omega) ?_)))
  have hmid:a<(a+b) / 2∧(a+b) / 2<b:=by omega
  generalize hmd:(a+b) / 2=mid at hmid ⊢
  have hm2:2 * mid≤a+b∧a+b≤2 * mid+1:=by omega
  refine zgx (fun s=>a≤s.1∧mid+m - b≤s.1∧s.1≤s.2∧(s.2=mid∧mid<m∨s.2=m∧m≤mid)) (fun K hK=>?_) (fun s hs=>?_)
  · refine zck (fun h=>zam (by omega) (hK _ ⟨by simp only;omega,by simp only;omega,by simp only;omega,.inl ⟨rfl,h⟩⟩)) (fun h=>hK _ ⟨by simp [-List.getD_eq_getElem?_getD],by simp only;omega,by simp only;omega,.inr ⟨rfl,by omega⟩⟩)
  obtain ⟨st,r⟩:=s
  obtain ⟨s1,s2,s3,s4⟩:=hs
  simp only at s1 s2 s3 s4 ⊢
  refine zam (by omega) ?_
  refine wp_loop (fun s=>st≤s.1∧s.1≤s.2∧s.2≤r) (fun s=>(s.2 - s.1).toNat) (by simp only;omega) ⟨by simp [-List.getD_eq_getElem?_getD],s3,by simp [-List.getD_eq_getElem?_getD]⟩ (fun s K hI hK=>?_)
  obtain ⟨i,j⟩:=s
  obtain ⟨h1,h2,h3⟩:=hI
  simp only at h1 h2 h3 hK ⊢
  refine zck (fun hlt=>?_) (fun hge=>?_)
  · rw [half (by omega)]
    refine zam (by omega) (zay (by unfold inU;omega) (zam (by omega) (zam (by omega) (zay (by omega) (zay (by omega) (wp_bind (hc _ _ (by omega) (by omega) (by omega) (by omega)) (fun y _=>?_)))))))
    refine zgs (fun _=>zam (by omega) (hK _ ⟨by simp only;omega,by simp only;omega,by simp only;omega⟩ (by simp only;omega))) (fun _=>hK _ ⟨by simp only;omega,by simp only;omega,by simp only;omega⟩ (by simp only;omega))
  refine zam (by omega) ?_
  refine zgx (fun s=>s.Perm l) (fun K hK=>?_) (fun s hs=>?_)
  · refine zcz (fun h=>?_) (fun h=>hK _ (.refl _))
    simp only [Bool.and_eq_true,decide_eq_true_eq] at h
    exact wp_bind (znm hf hl (by omega) (by omega) (by omega) (by omega)) (fun y hy=>zay hy.length_eq (hK _ hy))
  have hsl:=hs.length_eq
  refine zgx (fun s=>s.Perm l) (fun K hK=>?_) (fun t ht=>?_)
  · refine zcz (fun h=>?_) (fun h=>hK _ hs)
    simp only [Bool.and_eq_true,decide_eq_true_eq] at h
    exact wp_bind (ze2 hf n (by omega) (H.perm hs) (by omega) (by omega) (by omega) (by omega) (by omega)) (fun y hy=>zay hy.length_eq (hK _ (hy.trans hs)))
  have htl:=ht.length_eq
  refine zcz (fun h=>?_) (fun h=>zaC ht)
  simp only [Bool.and_eq_true,decide_eq_true_eq] at h
  exact wp_bind (ze2 hf n (by omega) (H.perm ht) (by omega) (by omega) (by omega) (by omega) (by omega)) (fun y hy=>zaC (hy.trans ht))
theorem zjO {fuel:Nat} (hf:1000≤fuel) {l:List Int} (hl:l.length≤100) {c:Int→Int→Option Int} (H:Cmp l c):Wp (zaE fuel l c) (fun r=>r.Perm l):=by
 unfold zaE
 refine wp_bind (Q:=fun r=>r.Perm l) ?_ (fun y hy=>zaC hy)
 unfold zbq
 refine wp_loop (fun s=>0≤s.1∧s.1+20=s.2.1∧s.1≤(l.length:Int)∧s.2.2.Perm l) (fun s=>(200 - s.1).toNat) (by simp only;omega) ⟨by simp [-List.getD_eq_getElem?_getD],by simp [-List.getD_eq_getElem?_getD],by simp only;omega,.refl _⟩ (fun s K hI hK=>?_)
 obtain ⟨i,j,s⟩:=s
 obtain ⟨h1,h2,h3,h4⟩:=hI
 simp only at h1 h2 h3 h4 hK ⊢
 have hlen:=h4.length_eq
 refine zck (fun hlt=>?_) (fun hge=>?_)
 · exact wp_bind (zh1 hf (by omega) (H.perm h4) (by omega) (by omega)) (fun y hy=>zay hy.length_eq (zam (by omega) (hK _ ⟨by simp only;omega,by simp only,by simp only;omega,hy.trans h4⟩ (by simp only;omega))))
 refine wp_bind (zh1 hf (by omega) (H.perm h4) (by omega) (by omega)) (fun y hy=>zay hy.length_eq ?_)
 have hy':=hy.trans h4
 refine wp_loop (fun s=>20≤s.1∧s.1≤200∧s.2.Perm l) (fun s=>(200 - s.1).toNat) (by simp only;omega) ⟨by simp [-List.getD_eq_getElem?_getD],by simp [-List.getD_eq_getElem?_getD],hy'⟩ (fun t K2 hI2 hK2=>?_)
 obtain ⟨bs,t⟩:=t
 obtain ⟨g1,g2,g3⟩:=hI2
 simp only at g1 g2 g3 hK2 ⊢
 refine zck (fun hbs=>?_) (fun _=>zaC g3)
 refine zam (by omega) ?_
 refine wp_loop (fun s=>0≤s.1∧s.1+2 * bs=s.2.1∧s.1≤(l.length:Int)∧s.2.2.Perm l) (fun s=>(1000 - s.1).toNat - 100) (by simp only;omega) ⟨by simp [-List.getD_eq_getElem?_getD],by simp [-List.getD_eq_getElem?_getD],by simp only;omega,g3⟩ (fun u K3 hI3 hK3=>?_)
 obtain ⟨x,z,u⟩:=u
 obtain ⟨u1,u2,u3,u4⟩:=hI3
 simp only at u1 u2 u3 u4 hK3 ⊢
 have hul:=u4.length_eq
 refine zck (fun hz=>?_) (fun hz=>?_)
 · exact zam (by omega) (wp_bind (ze2 hf fuel (by omega) (H.perm u4) (by omega) (by omega) (by omega) (by omega) (by omega)) (fun y hy=>zay hy.length_eq (zam (by omega) (zam (by omega) (hK3 _ ⟨by simp only;omega,by simp only,by simp only;omega,hy.trans u4⟩ (by simp only;omega))))))
 refine zam (by omega) ?_
 refine zgx (fun s=>s.Perm l) (fun K4 hK4=>?_) (fun v hv=>zam (by omega) (hK2 _ ⟨by simp only;omega,by simp only;omega,hv⟩ (by simp only;omega)))
 refine zck (fun hx=>?_) (fun hx=>hK4 _ u4)
 exact wp_bind (ze2 hf fuel (by omega) (H.perm u4) (by omega) (by omega) (by omega) (by omega) (by omega)) (fun y hy=>zay hy.length_eq (hK4 _ (hy.trans u4)))
end Go.Sp
end
/- Plain laws, mantle: which mantle a lamp has, by both; which burns tell; ages as sums. No program in sight. -/
section
set_option linter.all false
namespace Go.Sp
open Go.Av
set_option maxRecDepth 100000
def mt (w:Wear) (i:Nat):Mantle:=w.Mantles.getD i default
def bn (w:Wear) (i:Nat):Burn:=w.Burns.getD i default
def Cand (w:Wear) (lamp night known:Int) (j:Nat):Prop:=(mt w j).Lamp=lamp∧(mt w j).Night≤night∧zav (mt w j).Known (mt w j).Until known=true
instance (w:Wear) (lamp night known:Int) (j:Nat):Decidable (Cand w lamp night known j):=inferInstanceAs (Decidable (_∧_∧_))
def fitN (w:Wear) (lamp night known:Int):Nat→Int
 | 0=>-1
 | n+1=>if Cand w lamp night known n∧(fitN w lamp night known n<0∨(mt w (fitN w lamp night known n).toNat).Night≤(mt w n).Night) then (n:Int) else fitN w lamp night known n
def fit (w:Wear) (lamp night known:Int):Int:=fitN w lamp night known w.Mantles.length
structure FitIs (w:Wear) (lamp night known:Int) (n:Nat) (i:Nat):Prop where
 lt:i<n
 cand:Cand w lamp night known i
 top:∀ j,j<n→Cand w lamp night known j→(mt w j).Night≤(mt w i).Night∧(i<j→(mt w j).Night<(mt w i).Night)
theorem ziU (w:Wear) (lamp night known:Int):∀ n,(fitN w lamp night known n = -1∧∀ j,j<n→¬ Cand w lamp night known j)∨∃ i:Nat,fitN w lamp night known n=(i:Int)∧FitIs w lamp night known n i
 | 0=>.inl ⟨rfl,fun j hj=>absurd hj (Nat.not_lt_zero _)⟩
 | n+1=>by
  unfold fitN
  rcases ziU w lamp night known n with ⟨e,h⟩|⟨i,e,h⟩
  · rw [e]
    by_cases hc:Cand w lamp night known n
    · rw [if_pos ⟨hc,.inl (by omega)⟩]
      refine .inr ⟨n,rfl,by omega,hc,fun j hj hcj=>?_⟩
      by_cases e:j=n
      · subst e;exact ⟨Int.le_refl _,fun h=>absurd h (Nat.lt_irrefl _)⟩
      · exact absurd hcj (h j (by omega))
    · rw [if_neg (fun h=>hc h.1)]
      refine .inl ⟨rfl,fun j hj=>?_⟩
      by_cases e:j=n
      · rw [e];exact hc
      · exact h j (by omega)
  · rw [e,Int.toNat_natCast]
    by_cases hc:Cand w lamp night known n∧((i:Int)<0∨(mt w i).Night≤(mt w n).Night)
    · rw [if_pos hc]
      have h2:(mt w i).Night≤(mt w n).Night:=hc.2.resolve_left (by omega)
      refine .inr ⟨n,rfl,by omega,hc.1,fun j hj hcj=>?_⟩
      by_cases e:j=n
      · subst e;exact ⟨Int.le_refl _,fun h=>absurd h (Nat.lt_irrefl _)⟩
      · have:=(h.top j (by omega) hcj).1
        exact ⟨by omega,fun h=>by omega⟩
    · rw [if_neg hc]
      refine .inr ⟨i,rfl,by have:=h.lt;omega,h.cand,fun j hj hcj=>?_⟩
      by_cases e:j=n
      · subst e
        have:¬ (mt w i).Night≤(mt w j).Night:=fun h=>hc ⟨hcj,.inr h⟩
        exact ⟨by omega,fun _=>by omega⟩
      · exact h.top j (by omega) hcj
theorem zij (w:Wear) (lamp night known:Int):(fit w lamp night known = -1∧∀ j,j<w.Mantles.length→¬ Cand w lamp night known j)∨∃ i:Nat,fit w lamp night known=(i:Int)∧FitIs w lamp night known w.Mantles.length i:=ziU w lamp night known _
theorem FitIs.eq {w:Wear} {lamp night known:Int} {i j:Nat} (h1:FitIs w lamp night known w.Mantles.length i) (h2:FitIs w lamp night known w.Mantles.length j):i=j:=by
 have a:=h1.top j h2.lt h2.cand
 have b:=h2.top i h1.lt h1.cand
 rcases Nat.lt_trichotomy i j with h|h|h
 · have:=a.2 h;omega
 · exact h
 · have:=b.2 h;omega
theorem FitIs.fit {w:Wear} {lamp night known:Int} {i:Nat} (h:FitIs w lamp night known w.Mantles.length i):fit w lamp night known=(i:Int):=by
 rcases zij w lamp night known with ⟨e,h2⟩|⟨j,e,h2⟩
 · exact absurd h.cand (h2 i h.lt)
 · rw [e,h2.eq h]
theorem zn1 {w:Wear} {lamp night known:Int} {i:Nat} (h:Go.Sp.fit w lamp night known=(i:Int)):FitIs w lamp night known w.Mantles.length i:=by
 rcases zij w lamp night known with ⟨e,h2⟩|⟨j,e,h2⟩
 · omega
 · have:i=j:=by omega
   subst this;exact h2
theorem zjv (w:Wear) (lamp night known:Int) : -1≤fit w lamp night known∧fit w lamp night known<(w.Mantles.length:Int):=by
 rcases zij w lamp night known with ⟨e,_⟩|⟨j,e,h⟩
 · omega
 · have:=h.lt;omega
theorem FitIs.earlier {w:Wear} {lamp night known night':Int} {i:Nat} (h:FitIs w lamp night known w.Mantles.length i) (h1:(mt w i).Night≤night') (h2:night'≤night):FitIs w lamp night' known w.Mantles.length i:=
 ⟨h.lt,⟨h.cand.1,h1,h.cand.2.2⟩,fun j hj hc=>h.top j hj ⟨hc.1,by have:=hc.2.1;omega,hc.2.2⟩⟩
theorem ziR (w:Wear) (lamp night known:Int):zbK w lamp night known=some (fit w lamp night known):=by
 unfold zbK
 refine Wp.eq (zey (fun i s=>s=fitN w lamp night known i) rfl (fun i s K hi hI hK=>?_) (fun s hs=>zaC hs))
 have hs:=ziU w lamp night known i
 rw [← hI] at hs
 refine zay (fun h=>?_) ?_
 · simp only [Bool.and_eq_true,Bool.not_eq_true',decide_eq_false_iff_not] at h
   rcases hs with ⟨e,_⟩|⟨j,e,hj⟩
   · omega
   · have:=hj.lt;omega
 have e:((((decide ((w.Mantles.getD i default).Lamp=lamp)) && (decide ((w.Mantles.getD i default).Night≤night))) && (zav ((w.Mantles.getD i default).Known) ((w.Mantles.getD i default).Until) known)) && ((decide (s<0)) || (decide ((w.Mantles.getD (s).toNat default).Night≤(w.Mantles.getD i default).Night))))=decide (Cand w lamp night known i∧(s<0∨(mt w s.toNat).Night≤(mt w i).Night)):=by
  rw [Bool.eq_iff_iff]
  simp only [Bool.and_eq_true,Bool.or_eq_true,decide_eq_true_eq,Cand,mt,and_assoc]
 rw [e]
 refine zck (fun h=>hK _ ?_) (fun h=>hK _ ?_)
 · subst hI;unfold fitN;rw [if_pos h]
 · subst hI;conv=>rhs;unfold fitN
   rw [if_neg h]
def zoi:Mantle:=⟨0,0,0,0,0,0⟩
def atR (w:Wear) (lamp night known:Int):Mantle×Bool:=if fit w lamp night known<0 then (zoi,false) else (mt w (fit w lamp night known).toNat,true)
theorem rcounts (a b c:Int):zaF a b c=zav a b c:=rfl
theorem at_eq {w:Wear} {fuel:Nat} (hf:w.Mantles.length<fuel) (hn:w.Mantles.length≤60) (lamp night known:Int):zbT fuel w lamp night known=some (atR w lamp night known):=by
 unfold zbT
 refine Wp.eq ?_
 refine wp_loop (fun s=>∃ i:Nat,s.2.1=(i:Int)∧i≤w.Mantles.length∧s.1 = !decide (fitN w lamp night known i<0)∧s.2.2=if fitN w lamp night known i<0 then zoi else mt w (fitN w lamp night known i).toNat) (fun s=>w.Mantles.length - s.2.1.toNat) (by simp [-List.getD_eq_getElem?_getD];omega) ⟨0,rfl,Nat.zero_le _,rfl,rfl⟩ (fun s K hI hK=>?_)
 obtain ⟨b,x,m⟩:=s
 obtain ⟨i,h1,h2,h3,h4⟩:=hI
 simp only at h1 h2 h3 h4 hK ⊢
 subst h1
 by_cases hin:i<w.Mantles.length
 · refine zef (by simp [-List.getD_eq_getElem?_getD];omega) (zay (by omega) ?_)
   simp only [Int.toNat_natCast] at hK ⊢
   have e:((((decide ((w.Mantles.getD i default).Lamp=lamp)) && (decide ((w.Mantles.getD i default).Night≤night))) && (zaF ((w.Mantles.getD i default).Known) ((w.Mantles.getD i default).Until) known)) && ((!b) || (decide (m.Night≤(w.Mantles.getD i default).Night))))=decide (Cand w lamp night known i∧(fitN w lamp night known i<0∨(mt w (fitN w lamp night known i).toNat).Night≤(mt w i).Night)):=by
    rw [Bool.eq_iff_iff,h3,h4]
    by_cases hc:fitN w lamp night known i<0
    · simp only [hc,Bool.and_eq_true,Bool.or_eq_true,decide_eq_true_eq,Cand,mt,and_assoc,rcounts];simp [-List.getD_eq_getElem?_getD]
    · simp only [hc,Bool.and_eq_true,Bool.or_eq_true,decide_eq_true_eq,Cand,mt,and_assoc,rcounts];simp [-List.getD_eq_getElem?_getD]
   rw [e]
   refine zck (fun h=>zam (by omega) (hK _ ⟨i+1,by simp [-List.getD_eq_getElem?_getD],by omega,?_,?_⟩ (by simp only;omega))) (fun h=>zam (by omega) (hK _ ⟨i+1,by simp [-List.getD_eq_getElem?_getD],by omega,?_,?_⟩ (by simp only;omega)))
   · simp only;unfold fitN;rw [if_pos h];simp [-List.getD_eq_getElem?_getD]
   · simp only;unfold fitN;rw [if_pos h,if_neg (by omega)];simp [-List.getD_eq_getElem?_getD,mt]
   · simp only;unfold fitN;rw [if_neg h];exact h3
   · simp only;unfold fitN;rw [if_neg h];exact h4
 · have:i=w.Mantles.length:=by omega
   subst this
   refine zcO (by simp [-List.getD_eq_getElem?_getD]) (zaC ?_)
   unfold atR fit
   rw [h3,h4]
   by_cases hc:fitN w lamp night known w.Mantles.length<0
   · simp [-List.getD_eq_getElem?_getD,hc]
   · simp [-List.getD_eq_getElem?_getD,hc]
def tell (w:Wear) (known:Int) (i:Nat):Bool:=decide (0≤fit w (bn w i).Lamp (bn w i).Night known) && zav (bn w i).Known (bn w i).Until known &&
 decide (∀ k,k<w.Burns.length→i<k→¬ ((bn w k).Lamp=(bn w i).Lamp∧(bn w k).Night=(bn w i).Night∧zav (bn w k).Known (bn w k).Until known=true))
def zbb (P:Nat→Bool) (f:Nat→Int):Nat→Int
 | 0=>0
 | n+1=>zbb P f n+(if P n=true then f n else 0)
theorem zfw {P Q:Nat→Bool} {f:Nat→Int}:∀ {n:Nat},(∀ i,i<n→P i=Q i)→zbb P f n=zbb Q f n
 | 0,_=>rfl
 | n+1,h=>by unfold zbb;rw [zfw (fun i hi=>h i (by omega)),h n (by omega)]
theorem zgY {P Q:Nat→Bool} {f:Nat→Int}:∀ {n:Nat},(∀ i,i<n→0≤f i)→(∀ i,i<n→P i=true→Q i=true)→zbb P f n≤zbb Q f n
 | 0,_,_=>Int.le_refl _
 | n+1,h0,h=>by
  unfold zbb
  have h1:=zgY (fun i hi=>h0 i (by omega)) (fun i hi=>h i (by omega)) (P:=P) (Q:=Q) (f:=f) (n:=n)
  have h2:=h0 n (by omega)
  by_cases hp:P n=true
  · rw [if_pos hp,if_pos (h n (by omega) hp)];omega
  · rw [if_neg hp];split <;> omega
theorem zez {P:Nat→Bool} {f:Nat→Int} {c:Int} (hc:0≤c):∀ {n:Nat},(∀ i,i<n→0≤f i∧f i≤c)→0≤zbb P f n∧zbb P f n≤(n:Int) * c
 | 0,_=>by simp [-List.getD_eq_getElem?_getD,zbb]
 | n+1,h=>by
  unfold zbb
  have h1:=zez hc (fun i hi=>h i (by omega)) (P:=P) (f:=f) (n:=n)
  have h2:=h n (by omega)
  have:((n+1:Nat):Int) * c=(n:Int) * c+c:=by rw [Int.natCast_add,Int.add_mul];simp [-List.getD_eq_getElem?_getD]
  rw [this]
  split <;> omega
theorem zgz {P:Nat→Bool} {f g:Nat→Int}:∀ {n:Nat},(∀ i,i<n→P i=true→f i≤g i)→zbb P f n≤zbb P g n
 | 0,_=>Int.le_refl _
 | n+1,h=>by
  unfold zbb
  have h1:=zgz (fun i hi=>h i (by omega)) (P:=P) (f:=f) (g:=g) (n:=n)
  by_cases hp:P n=true
  · rw [if_pos hp,if_pos hp];have:=h n (by omega) hp;omega
  · rw [if_neg hp,if_neg hp];omega
theorem zjn {P Q R:Nat→Bool} {f:Nat→Int}:∀ {n:Nat},(∀ i,i<n→R i=(P i || Q i))→(∀ i,i<n→¬ (P i=true∧Q i=true))→zbb R f n=zbb P f n+zbb Q f n
 | 0,_,_=>rfl
 | n+1,h1,h2=>by
  unfold zbb
  rw [zjn (fun i hi=>h1 i (by omega)) (fun i hi=>h2 i (by omega)),h1 n (by omega)]
  have:=h2 n (by omega)
  cases hp:P n <;> cases hq:Q n <;> simp_all [-List.getD_eq_getElem?_getD] <;> omega
def zg6 (w:Wear) (known m from_ to:Int) (i:Nat):Bool:=tell w known i && decide (fit w (bn w i).Lamp (bn w i).Night known=m) && (decide (from_<(bn w i).Night) && decide ((bn w i).Night≤to))
def zhO (w:Wear) (known m from_ to:Int):Int:=zbb (zg6 w known m from_ to) (fun i=>(bn w i).Minutes.Lo) w.Burns.length
def zex (w:Wear) (known m from_ to:Int):Int:=zbb (zg6 w known m from_ to) (fun i=>(bn w i).Minutes.Hi) w.Burns.length
end Go.Sp
end
/- Plain laws, mantle: which burns tell, ages, by both; the burns of each mantle. No program in sight. -/
section
set_option linter.all false
namespace Go.Sp
open Go.Av
set_option maxRecDepth 100000
theorem zeC {T:Type} [Inhabited T] {p:T→Option Bool} {q:T→Bool} (hp:∀ x,p x=some (q x)) (l:List T) :
 (zao (zas (fun i1 (s1:Unit) k1=>zao (p (l.getD i1 default)) fun y3=>(bif y3 then some (i1:Int) else k1 ())) (fun (s1:Unit)=>some (-1)) l.length 0 ():Option Int) fun y1=>some (decide (0≤y1)))=some (l.any q):=by
 rw [zfJ hp l]
 show some _=some _
 congr 1
 cases h:l.findIdx? q with
 | none=>
  rw [List.findIdx?_eq_none_iff] at h
  have:l.any q=false:=by rw [List.any_eq_false];intro x hx;simp [-List.getD_eq_getElem?_getD,h x hx]
  rw [this];rfl
 | some i=>
  rw [List.findIdx?_eq_some_iff_getElem] at h
  obtain ⟨h1,h2,_⟩:=h
  have:l.any q=true:=List.any_eq_true.2 ⟨_,List.getElem_mem h1,h2⟩
  rw [this];simp [-List.getD_eq_getElem?_getD]
def zju (w:Wear) (known:Int) (i k:Nat):Prop:=(bn w k).Lamp=(bn w i).Lamp∧(bn w k).Night=(bn w i).Night∧zav (bn w k).Known (bn w k).Until known=true
theorem zl3 {w:Wear} {known:Int} {i:Nat}:tell w known i=true↔0≤fit w (bn w i).Lamp (bn w i).Night known∧zav (bn w i).Known (bn w i).Until known=true∧∀ k,k<w.Burns.length→i<k→¬ zju w known i k:=by
 simp only [tell,Bool.and_eq_true,decide_eq_true_eq,and_assoc,zju]
theorem zpi {w:Wear} {known:Int} {i:Nat}:(w.Burns.drop (i+1)).any (fun x0=>zbh x0 (bn w i) known)=true↔∃ k,k<w.Burns.length∧i<k∧zju w known i k:=by
 rw [List.any_eq_true]
 constructor
 · rintro ⟨x,hx,h⟩
   obtain ⟨j,hj,rfl⟩:=zdK hx
   rw [List.length_drop] at hj
   rw [getD_drop] at h
   refine ⟨i+1+j,by omega,by omega,?_⟩
   simp only [zbh,Bool.and_eq_true,decide_eq_true_eq,and_assoc] at h
   exact h
 · rintro ⟨k,hk,hik,h⟩
   refine ⟨bn w k,?_,by simp only [zbh,Bool.and_eq_true,decide_eq_true_eq,and_assoc];exact h⟩
   have:(w.Burns.drop (i+1)).getD (k - (i+1)) default=bn w k:=by rw [getD_drop];unfold bn;congr 1;omega
   rw [← this]
   exact zcV (by rw [List.length_drop];omega)
theorem zmD {w:Wear} (V:WearOk w) {fuel:Nat} (hf:100<fuel) (known:Int):zbB fuel w known=some ((List.range w.Burns.length).map (tell w known)):=by
 have nu:=V.nu;have nm:=V.nm
 unfold zbB
 refine Wp.eq ?_
 refine zji w.Burns.length (by omega) (fun i (s:List Bool)=>s=(List.range i).map (tell w known)) rfl (fun i s K hi hI hK=>?_)
 subst hI
 by_cases hin:i<w.Burns.length
 · refine zef (by simp [-List.getD_eq_getElem?_getD];omega) (zay (by simp only;omega) ?_)
   simp only [Int.toNat_natCast]
   refine zaP (at_eq (by omega) nm _ _ known) (zam (by omega) ?_)
   refine wp_loop (fun s=>∃ k:Nat,s.1=(k:Int)∧i+1≤k∧k≤w.Burns.length∧(s.2=true↔0≤fit w (bn w i).Lamp (bn w i).Night known∧zav (bn w i).Known (bn w i).Until known=true∧∀ j,j<k→i<j→¬ zju w known i j)) (fun s=>w.Burns.length - s.1.toNat) (by simp only;omega)
    ⟨i+1,by simp [-List.getD_eq_getElem?_getD],Nat.le_refl _,hin,?_⟩ (fun s K2 hI2 hK2=>?_)
   · show (_ && _)=true↔_
     have e:(atR w (w.Burns.getD i default).Lamp (w.Burns.getD i default).Night known).2=decide (0≤fit w (bn w i).Lamp (bn w i).Night known):=by
      unfold atR bn
      by_cases h:fit w (w.Burns.getD i default).Lamp (w.Burns.getD i default).Night known<0
      · rw [if_pos h];simp [-List.getD_eq_getElem?_getD];omega
      · rw [if_neg h];simp [-List.getD_eq_getElem?_getD];omega
     rw [e,Bool.and_eq_true,decide_eq_true_eq]
     exact ⟨fun h=>⟨h.1,h.2,fun j hj hij=>by omega⟩,fun h=>⟨h.1,h.2.1⟩⟩
   obtain ⟨x,b⟩:=s
   obtain ⟨k,h1,h2,h3,h4⟩:=hI2
   simp only at h1 h4 hK2 ⊢
   subst h1
   by_cases hk:k<w.Burns.length
   · refine zef (by simp [-List.getD_eq_getElem?_getD];omega) (zay (by omega) (zam (by omega) (hK2 _ ⟨k+1,by simp [-List.getD_eq_getElem?_getD],by omega,by omega,?_⟩ (by simp only;omega))))
     simp only [Int.toNat_natCast,Bool.and_eq_true,h4]
     have e:(((!decide ((w.Burns.getD k default).Lamp=(w.Burns.getD i default).Lamp)) || (!decide ((w.Burns.getD k default).Night=(w.Burns.getD i default).Night))) || (!(zaF ((w.Burns.getD k default).Known) ((w.Burns.getD k default).Until) known)))=true↔¬ zju w known i k:=by
      simp only [Bool.or_eq_true,Bool.not_eq_true',decide_eq_false_iff_not,zju,bn,rcounts]
      constructor
      · rintro ((h|h)|h) ⟨h1,h2,h3⟩
        · exact h h1
        · exact h h2
        · rw [h] at h3;cases h3
      · intro h
        by_cases h1:(w.Burns.getD k default).Lamp=(w.Burns.getD i default).Lamp
        · by_cases h2:(w.Burns.getD k default).Night=(w.Burns.getD i default).Night
          · refine .inr ?_
            cases h3:zav (w.Burns.getD k default).Known (w.Burns.getD k default).Until known with
            | false=>rfl
            | true=>exact absurd ⟨h1,h2,h3⟩ h
          · exact .inl (.inr h2)
        · exact .inl (.inl h1)
     rw [e]
     constructor
     · rintro ⟨⟨a1,a2,a3⟩,a4⟩
       refine ⟨a1,a2,fun j hj hij=>?_⟩
       by_cases e:j=k
       · rw [e];exact a4
       · exact a3 j (by omega) hij
     · rintro ⟨a1,a2,a3⟩
       exact ⟨⟨a1,a2,fun j hj hij=>a3 j (by omega) hij⟩,a3 k (by omega) (by omega)⟩
   · have:k=w.Burns.length:=by omega
     subst this
     refine zcO (by simp [-List.getD_eq_getElem?_getD]) (zcf (by simp [-List.getD_eq_getElem?_getD];omega) (zam (by omega) (hK _ hin ?_)))
     rw [List.range_succ,List.map_append]
     congr 1
     simp only [List.map_cons,List.map_nil]
     congr 1
     rw [Bool.eq_iff_iff,h4,zl3]
 · have:i=w.Burns.length:=by omega
   subst this
   exact zcO (by simp [-List.getD_eq_getElem?_getD]) (zaC rfl)
theorem zlc {w:Wear} (V:WearOk w) {i:Nat} (hi:i<w.Burns.length):BurnOk (bn w i):=(V.bu i hi).1
theorem sum60 {w:Wear} (V:WearOk w) (P:Nat→Bool) {n:Nat} (hn:n≤w.Burns.length):(0≤zbb P (fun i=>(bn w i).Minutes.Lo) n∧zbb P (fun i=>(bn w i).Minutes.Lo) n≤86400)∧(0≤zbb P (fun i=>(bn w i).Minutes.Hi) n∧zbb P (fun i=>(bn w i).Minutes.Hi) n≤86400):=by
 have nu:=V.nu
 have h1:=zez (P:=P) (f:=fun i=>(bn w i).Minutes.Lo) (c:=1440) (by decide) (n:=n) (fun i hi=>by have:=(zlc V (i:=i) (by omega)).min;omega)
 have h2:=zez (P:=P) (f:=fun i=>(bn w i).Minutes.Hi) (c:=1440) (by decide) (n:=n) (fun i hi=>by have:=(zlc V (i:=i) (by omega)).min;omega)
 have:(n:Int) * 1440≤86400:=by omega
 omega
def znR (w:Wear) (known:Int) (m:Mantle) (night:Int) (i:Nat):Bool:=tell w known i && decide ((bn w i).Lamp=m.Lamp) && zaD (bn w i).Night m.Night night
theorem zo2 {w:Wear} (V:WearOk w) {known lamp night:Int} {m:Nat} (h:FitIs w lamp night known w.Mantles.length m) {i:Nat} (hi:i<w.Burns.length):znR w known (mt w m) night i=zg6 w known (m:Int) (-1) night i:=by
 rw [Bool.eq_iff_iff]
 unfold znR zg6 zaD
 simp only [Bool.and_eq_true,decide_eq_true_eq]
 have hb:=(zlc V hi).told.night
 constructor
 · rintro ⟨⟨h1,h2⟩,h3,h4⟩
   refine ⟨⟨h1,?_⟩,by omega,h4⟩
   rw [h2,h.cand.1]
   exact (h.earlier h3 h4).fit
 · rintro ⟨⟨h1,h2⟩,h3,h4⟩
   have h5:=zn1 h2
   exact ⟨⟨h1,h5.cand.1.symm⟩,h5.cand.2.1,h4⟩
def zhJ (w:Wear) (known m:Int) (n:Nat):List Int:=((List.range n).filter (fun i=>tell w known i && decide (fit w (bn w i).Lamp (bn w i).Night known=m))).map (fun i:Nat=>(i:Int))
theorem zjC {w:Wear} {known m:Int} {n:Nat}:zhJ w known m (n+1)=if tell w known n=true∧fit w (bn w n).Lamp (bn w n).Night known=m then zhJ w known m n++[(n:Int)] else zhJ w known m n:=by
 unfold zhJ
 rw [List.range_succ,List.filter_append,List.map_append]
 by_cases h:tell w known n=true∧fit w (bn w n).Lamp (bn w n).Night known=m
 · rw [if_pos h]
   simp [-List.getD_eq_getElem?_getD,h]
 · rw [if_neg h]
   have:(tell w known n && decide (fit w (bn w n).Lamp (bn w n).Night known=m))=false:=by
    rw [Bool.and_eq_false_iff,decide_eq_false_iff_not]
    by_cases h1:tell w known n=true
    · exact .inr (fun h2=>h ⟨h1,h2⟩)
    · exact .inl (by simpa [-List.getD_eq_getElem?_getD] using h1)
   simp [-List.getD_eq_getElem?_getD,this]
theorem zhh {w:Wear} {known m:Int} {n:Nat} {x:Int} (h:x∈zhJ w known m n):0≤x∧x<(n:Int):=by
 unfold zhJ at h
 rw [List.mem_map] at h
 obtain ⟨i,hi,rfl⟩:=h
 have:=List.mem_range.1 (List.mem_filter.1 hi).1
 omega
theorem zi8 (w:Wear) (known m:Int) (n:Nat):(zhJ w known m n).length≤n:=by
 unfold zhJ
 rw [List.length_map]
 exact Nat.le_trans (List.length_filter_le _ _) (by simp [-List.getD_eq_getElem?_getD])
theorem Mp.zoU {T:Type}:(Mp.empty:Mp T).ok:=⟨List.nodup_nil,rfl,fun k hk=>by cases hk⟩
theorem Mp.ok_set {T:Type} {m:Mp T} (h:m.ok) (hd:∀ k,(m.get k).isSome=true→k∈m.keys) (q:Int) (x:T):(m.set q x).ok∧∀ k,((m.set q x).get k).isSome=true→k∈(m.set q x).keys:=by
 obtain ⟨h1,h2,h3⟩:=h
 unfold Mp.set Mp.ok
 by_cases hq:(m.get q).isSome=true
 · simp only [hq,if_true]
   refine ⟨⟨h1,h2,fun k hk=>?_⟩,fun k hk=>?_⟩
   · by_cases e:k=q
     · rw [if_pos e];rfl
     · rw [if_neg e];exact h3 k hk
   · by_cases e:k=q
     · rw [e];exact hd q hq
     · rw [if_neg e] at hk;exact hd k hk
 · simp only [hq]
   have hnq:q ∉ m.keys:=fun h=>hq (h3 q h)
   refine ⟨⟨?_,by simp [-List.getD_eq_getElem?_getD,h2],fun k hk=>?_⟩,fun k hk=>?_⟩
   · show (m.keys++[q]).Nodup
     rw [List.nodup_append]
     exact ⟨h1,by simp [-List.getD_eq_getElem?_getD],fun a ha b hb=>by
      rw [List.mem_singleton] at hb
      subst hb
      exact fun e=>hnq (e▸ha)⟩
   · by_cases e:k=q
     · rw [if_pos e];rfl
     · rw [if_neg e]
       have:k∈m.keys++[q]:=hk
       rw [List.mem_append,List.mem_singleton] at this
       exact h3 k (this.resolve_right e)
   · show k∈m.keys++[q]
     rw [List.mem_append,List.mem_singleton]
     by_cases e:k=q
     · exact .inr e
     · rw [if_neg e] at hk;exact .inl (hd k hk)
theorem zpk {w:Wear} (V:WearOk w) {fuel:Nat} (hf:1000≤fuel) (known:Int):Wp (zdS fuel w known) (fun mp=>∀ m,((mp.get m).getD default).Perm (zhJ w known m w.Burns.length)):=by
 have nu:=V.nu
 unfold zdS
 refine zey (fun i s=>(s.ok∧∀ k,(s.get k).isSome=true→k∈s.keys)∧∀ m,(s.get m).getD []=zhJ w known m i) ⟨⟨Mp.zoU,fun k hk=>by cases hk⟩,fun m=>rfl⟩ (fun i s K hi hI hK=>?_) (fun s hs=>?_)
 · obtain ⟨⟨h1,h2⟩,h3⟩:=hI
   refine zaP (ziR w _ _ known) (zay (fun _=>by omega) ?_)
   refine zlm (Q:=fun y=>y=(w.Burns.drop (i+1)).any (fun x0=>zbh x0 (bn w i) known)) (fun _=>?_) (fun y6 h6=>?_)
   · have e:(((i:Int)+1)).toNat=i+1:=by omega
     rw [e]
     exact ⟨_,zeC (q:=fun x0=>zbh x0 (bn w i) known) (fun x=>rfl) _,rfl⟩
   have e:(((decide (0≤fit w (w.Burns.getD i default).Lamp (w.Burns.getD i default).Night known)) && (zav ((w.Burns.getD i default).Known) ((w.Burns.getD i default).Until) known)) && (!y6))=tell w known i:=by
    rw [Bool.eq_iff_iff,zl3]
    simp only [Bool.and_eq_true,Bool.not_eq_true',decide_eq_true_eq,and_assoc,bn]
    refine and_congr_right (fun a1=>and_congr_right (fun a2=>?_))
    have h7:=h6 (by simp only [Bool.and_eq_true,decide_eq_true_eq];exact ⟨a1,a2⟩)
    rw [h7,← Bool.not_eq_true,zpi]
    exact ⟨fun h k hk hik hl=>h ⟨k,hk,hik,hl⟩,fun h ⟨k,hk,hik,hl⟩=>h k hk hik hl⟩
   rw [e]
   have hlen:=zi8 w known (fit w (w.Burns.getD i default).Lamp (w.Burns.getD i default).Night known) i
   refine zcz (fun ht=>zcf (by rw [h3];simp [-List.getD_eq_getElem?_getD];omega) (hK _ ⟨Mp.ok_set h1 h2 _ _,fun m=>?_⟩)) (fun ht=>hK _ ⟨⟨h1,h2⟩,fun m=>?_⟩)
   · rw [h3]
     show (if m=_ then some _ else s.get m).getD []=_
     rw [zjC]
     by_cases e1:m=fit w (bn w i).Lamp (bn w i).Night known
     · have e2:tell w known i=true∧fit w (bn w i).Lamp (bn w i).Night known=m:=⟨ht,e1.symm⟩
       rw [if_pos e2,e1]
       exact congrArg (fun z=>Option.getD z []) (if_pos rfl)
     · have e2:¬ (tell w known i=true∧fit w (bn w i).Lamp (bn w i).Night known=m):=fun h=>e1 h.2.symm
       rw [if_neg e2,← h3 m]
       exact congrArg (fun z=>Option.getD z []) (if_neg e1)
   · rw [zjC,if_neg (fun h=>by rw [ht] at h;cases h.1),h3]
 · obtain ⟨⟨h1,h2⟩,h3⟩:=hs
   refine zay h1 ?_
   have hsort:∀ m,Wp (zaE fuel ((s.get m).getD []) (fun x0 x1=>zbz x0 x1 w)) (fun r=>r.Perm ((s.get m).getD [])):=fun m=>by
    have hl:=zi8 w known m w.Burns.length
    refine zjO hf (by rw [h3];omega) (fun a ha b hb=>?_)
    rw [h3] at ha hb
    have a1:=zhh ha
    have b1:=zhh hb
    unfold zbz
    rw [zgc a1,zgc b1]
    exact ⟨_,rfl⟩
   have hrow:∀ m,Wp (zao (zaE fuel ((s.get m).getD []) (fun x0 x1=>zbz x0 x1 w)) fun y13=>must (y13.length=((s.get m).getD []).length) (some y13)) (fun r=>r.Perm ((s.get m).getD [])):=fun m=>wp_bind (hsort m) (fun y hy=>zay hy.length_eq (zaC hy))
   refine wp_bind (Q:=fun y=>∀ m,((y.get m).getD default).Perm (zhJ w known m w.Burns.length)) ?_ (fun y hy=>zaC hy)
   unfold Mp.zmi
   have hall:s.keys.all (fun k=>((fun (l11:List Int)=>zao (zaE fuel l11 (fun x0 x1=>zbz x0 x1 w)) fun y13=>must (y13.length=l11.length) (some y13)) ((s.get k).getD default)).isSome)=true:=by
    rw [List.all_eq_true]
    intro k _
    obtain ⟨r,e,_⟩:=hrow k
    show (zao (zaE fuel ((s.get k).getD []) (fun x0 x1=>zbz x0 x1 w)) fun y13=>must (y13.length=((s.get k).getD []).length) (some y13)).isSome=true
    rw [e];rfl
   rw [hall]
   refine zaC (fun m=>?_)
   rw [← h3]
   obtain ⟨r,e,hr⟩:=hrow m
   cases hm:s.get m with
   | none=>simp only [hm];exact .refl _
   | some l=>
    rw [hm] at e hr
    simp only [Option.getD_some,hm] at e hr ⊢
    rw [e];exact hr
end Go.Sp
end
/- Plain laws, mantle: the closet: which lives each batch may have. No program in sight. -/
section
set_option linter.all false
namespace Go.Sp
open Go.Av
set_option maxRecDepth 100000
def lsum (g:Int→Int):List Int→Int
 | []=>0
 | x::l=>g x+lsum g l
theorem znJ {g:Int→Int} {l r:List Int} (h:l.Perm r):lsum g l=lsum g r:=by
 induction h with
 | nil=>rfl
 | cons x _ ih=>unfold lsum;rw [ih]
 | swap x y l=>unfold lsum;unfold lsum;omega
 | trans _ _ h1 h2=>rw [h1,h2]
theorem zfG {g:Int→Int} (l:List Int) (x:Int):lsum g (l++[x])=lsum g l+g x:=by
 induction l with
 | nil=>simp [-List.getD_eq_getElem?_getD,lsum]
 | cons y l ih=>rw [List.cons_append];unfold lsum;rw [ih];omega
theorem zjt {g:Int→Int} {c:Int} (hc:0≤c):∀ {l:List Int},(∀ x∈l,0≤g x∧g x≤c)→0≤lsum g l∧lsum g l≤(l.length:Int) * c
 | [],_=>by simp [-List.getD_eq_getElem?_getD,lsum]
 | x::l,h=>by
  unfold lsum
  have h1:=zjt hc (fun y hy=>h y (List.mem_cons_of_mem _ hy)) (g:=g) (l:=l)
  have h2:=h x (List.mem_cons_self ..)
  have:((x::l).length:Int) * c=(l.length:Int) * c+c:=by rw [List.length_cons,Int.natCast_add,Int.add_mul];simp [-List.getD_eq_getElem?_getD]
  rw [this];omega
theorem zjs {P:Nat→Bool} {g:Int→Int}:∀ {n:Nat},lsum g (((List.range n).filter P).map (fun i:Nat=>(i:Int)))=zbb P (fun i=>g i) n
 | 0=>rfl
 | n+1=>by
  rw [List.range_succ,List.filter_append,List.map_append]
  unfold zbb
  rw [← zjs]
  by_cases h:P n=true
  · rw [if_pos h]
    have:(List.filter P [n]).map (fun i:Nat=>(i:Int))=[(n:Int)]:=by simp [-List.getD_eq_getElem?_getD,h]
    rw [this,zfG]
  · rw [if_neg h]
    have:(List.filter P [n]).map (fun i:Nat=>(i:Int))=[]:=by simp [-List.getD_eq_getElem?_getD,h]
    rw [this,List.append_nil,Int.add_zero]
theorem zjm {P Q:Nat→Bool} {f:Nat→Int}:∀ {n:Nat},zbb P (fun i=>if Q i=true then f i else 0) n=zbb (fun i=>P i && Q i) f n
 | 0=>rfl
 | n+1=>by
  unfold zbb
  rw [zjm]
  cases hp:P n <;> cases hq:Q n <;> simp [-List.getD_eq_getElem?_getD]
structure CoatOk (w:Wear) (known:Int) (m:Nat) (S:List mantle_sight) (c:mantle_coat):Prop where
 wear:c.w=w
 burns:c.burns.Perm (zhJ w known m w.Burns.length)
 sights:c.sights=S
theorem zgW {T:Type} [Inhabited T] {l:List T} {i:Nat} (h:i<l.length):l.take (i+1)=l.take i++[l.getD i default]:=by
 rw [List.take_add_one,List.getElem?_eq_getElem h,List.getD_eq_getElem?_getD,List.getElem?_eq_getElem h];rfl
theorem zks {w:Wear} (V:WearOk w) {known:Int} {m:Nat} {S:List mantle_sight} {c:mantle_coat} (hc:CoatOk w known m S c) (f t:Int):zbc c f t=some ⟨zhO w known m f t,zex w known m f t⟩:=by
 have nu:=V.nu
 unfold zbc
 rw [hc.wear]
 have hlen:c.burns.length≤60:=by have:=hc.burns.length_eq;have:=zi8 w known m w.Burns.length;omega
 have hin:∀ i,i<c.burns.length→0≤c.burns.getD i default∧c.burns.getD i default<(w.Burns.length:Int):=fun i hi=>zhh (hc.burns.mem_iff.1 (zcV hi))
 let g:(Burn→Int)→Int→Int:=fun F x=>if f<(bn w x.toNat).Night∧(bn w x.toNat).Night≤t then F (bn w x.toNat) else 0
 have hL:∀ F,(∀ b,BurnOk b→0≤F b∧F b≤1440)→∀ i,0≤lsum (g F) (c.burns.take i)∧lsum (g F) (c.burns.take i)≤86400:=fun F hF i=>by
  have:=zjt (g:=g F) (c:=1440) (by decide) (l:=c.burns.take i) (fun x hx=>by
   have hx':=zhh (hc.burns.mem_iff.1 (List.mem_of_mem_take hx))
   have:=hF _ (zlc V (i:=x.toNat) (by omega))
   simp only [g]
   split <;> omega)
  have h2:(c.burns.take i).length≤60:=by rw [List.length_take];omega
  omega
 have hlo:∀ b,BurnOk b→0≤b.Minutes.Lo∧b.Minutes.Lo≤1440:=fun b hb=>by have:=hb.min;omega
 have hhi:∀ b,BurnOk b→0≤b.Minutes.Hi∧b.Minutes.Hi≤1440:=fun b hb=>by have:=hb.min;omega
 refine Wp.eq (zey (fun i s=>s=⟨lsum (g (·.Minutes.Lo)) (c.burns.take i),lsum (g (·.Minutes.Hi)) (c.burns.take i)⟩) rfl (fun i s K hi hI hK=>?_) (fun s hs=>zaC ?_))
 · subst hI
   have a:=hin i hi
   have b1:=hL _ hlo i
   have b2:=hL _ hhi i
   have hb:=(zlc V (i:=(c.burns.getD i default).toNat) (by omega)).min
   refine zay a ?_
   have e:((decide (f<(w.Burns.getD ((c.burns.getD i default)).toNat default).Night)) && (decide ((w.Burns.getD ((c.burns.getD i default)).toNat default).Night≤t)))=decide (f<(bn w (c.burns.getD i default).toNat).Night∧(bn w (c.burns.getD i default).toNat).Night≤t):=by
    rw [Bool.decide_and];rfl
   rw [e]
   unfold bn at hb
   refine zck (fun h=>zam (by simp only;omega) (zam (by simp only;omega) (hK _ ?_))) (fun h=>hK _ ?_)
   · rw [zgW hi,zfG,zfG]
     simp only [g]
     rw [if_pos h,if_pos h];rfl
   · rw [zgW hi,zfG,zfG]
     simp only [g]
     rw [if_neg h,if_neg h,Int.add_zero,Int.add_zero]
 · rw [hs,List.take_length]
   have key:∀ F:Burn→Int,lsum (g F) c.burns=zbb (zg6 w known m f t) (fun i=>F (bn w i)) w.Burns.length:=fun F=>by
    rw [znJ hc.burns]
    unfold zhJ
    rw [zjs]
    have:(fun i:Nat=>g F (i:Int))=fun i:Nat=>if (decide (f<(bn w i).Night) && decide ((bn w i).Night≤t))=true then F (bn w i) else 0:=by
     funext i
     simp only [g,Int.toNat_natCast,Bool.and_eq_true,decide_eq_true_eq]
    rw [this,zjm]
    rfl
   have k1:=key (fun b=>b.Minutes.Lo)
   have k2:=key (fun b=>b.Minutes.Hi)
   show Range.mk _ _=Range.mk _ _
   rw [k1,k2];rfl
structure Ends (S:List mantle_sight) (g b:Int):Prop where
 top:∀ x∈S,x.bad=false→x.night≤g
 good:g = -1∨∃ x∈S,x.bad=false∧x.night=g
 low:∀ x∈S,x.bad=true→b ≠ -1∧b≤x.night
 bad:b = -1∨∃ x∈S,x.bad=true∧x.night=b
 g0 : -1≤g
 b0 : -1≤b
theorem Ends.uniq {S:List mantle_sight} {g b g' b':Int} (h:Ends S g b) (h':Ends S g' b'):g=g'∧b=b':=by
 constructor
 · rcases h.good with e|⟨x,hx,h1,h2⟩ <;> rcases h'.good with e'|⟨y,hy,h3,h4⟩
   · omega
   · have:=h.top y hy h3;have:=h'.g0;have:=h.g0;omega
   · have:=h'.top x hx h1;have:=h'.g0;have:=h.g0;omega
   · have:=h.top y hy h3;have:=h'.top x hx h1;omega
 · rcases h.bad with e|⟨x,hx,h1,h2⟩ <;> rcases h'.bad with e'|⟨y,hy,h3,h4⟩
   · omega
   · exact absurd e (h.low y hy h3).1
   · exact absurd e' (h'.low x hx h1).1
   · have:=(h.low y hy h3).2;have:=(h'.low x hx h1).2;omega
theorem zof (c:mantle_coat) (hn:∀ x∈c.sights,0≤x.night):Wp (zb8 c) (fun r=>Ends c.sights r.1 r.2):=by
 unfold zb8
 refine zey (fun i s=>Ends (c.sights.take i) s.1 s.2) ⟨fun x hx=>by simp [-List.getD_eq_getElem?_getD] at hx,.inl rfl,fun x hx=>by simp [-List.getD_eq_getElem?_getD] at hx,.inl rfl,by decide,by decide⟩ (fun i s K hi hI hK=>?_) (fun s hs=>zaC (by rw [List.take_length] at hs;exact hs))
 obtain ⟨g,b⟩:=s
 obtain ⟨h1,h2,h3,h4,h5,h6⟩:=hI
 simp only at h1 h2 h3 h4 h5 h6 ⊢
 have e:c.sights.getD i default=c.sights.getD i default:=rfl
 have hm:=zcV hi
 have h0:=hn _ hm
 generalize hx:c.sights.getD i default=x at hm h0 ⊢
 have hmem:∀ y,y∈c.sights.take (i+1)↔y∈c.sights.take i∨y=x:=fun y=>by rw [zgW hi,hx];simp [-List.getD_eq_getElem?_getD]
 refine zcz (fun hb=>hK _ ?_) (fun hb=>?_)
 · have hb':x.bad=false:=by simpa [-List.getD_eq_getElem?_getD] using hb
   refine ⟨fun y hy hyb=>?_,?_,fun y hy hyb=>?_,?_,?_,h6⟩
   · rcases (hmem y).1 hy with hy|rfl
     · have:=h1 y hy hyb;simp only;omega
     · simp only;omega
   · simp only
     rcases Int.le_total g x.night with hle|hle
     · exact .inr ⟨x,(hmem x).2 (.inr rfl),hb',by omega⟩
     · rcases h2 with e|⟨y,hy,y1,y2⟩
       · exact .inr ⟨x,(hmem x).2 (.inr rfl),hb',by omega⟩
       · exact .inr ⟨y,(hmem y).2 (.inl hy),y1,by omega⟩
   · rcases (hmem y).1 hy with hy|rfl
     · exact h3 y hy hyb
     · rw [hb'] at hyb;cases hyb
   · rcases h4 with e|⟨y,hy,y1,y2⟩
     · exact .inl e
     · exact .inr ⟨y,(hmem y).2 (.inl hy),y1,y2⟩
   · simp only;omega
 · have hb':x.bad=true:=by simpa [-List.getD_eq_getElem?_getD] using hb
   refine zcz (fun hc=>hK _ ?_) (fun hc=>hK _ ?_)
   · simp only [Bool.or_eq_true,decide_eq_true_eq] at hc
     refine ⟨fun y hy hyb=>?_,?_,fun y hy hyb=>?_,.inr ⟨x,(hmem x).2 (.inr rfl),hb',rfl⟩,h5,by simp only;omega⟩
     · rcases (hmem y).1 hy with hy|rfl
       · exact h1 y hy hyb
       · rw [hb'] at hyb;cases hyb
     · rcases h2 with e|⟨y,hy,y1,y2⟩
       · exact .inl e
       · exact .inr ⟨y,(hmem y).2 (.inl hy),y1,y2⟩
     · simp only
       rcases (hmem y).1 hy with hy|rfl
       · have:=h3 y hy hyb;omega
       · omega
   · simp only [Bool.or_eq_false_iff,decide_eq_false_iff_not] at hc
     refine ⟨fun y hy hyb=>?_,?_,fun y hy hyb=>?_,?_,h5,h6⟩
     · rcases (hmem y).1 hy with hy|rfl
       · exact h1 y hy hyb
       · rw [hb'] at hyb;cases hyb
     · rcases h2 with e|⟨y,hy,y1,y2⟩
       · exact .inl e
       · exact .inr ⟨y,(hmem y).2 (.inl hy),y1,y2⟩
     · rcases (hmem y).1 hy with hy|rfl
       · exact h3 y hy hyb
       · simp only;omega
     · rcases h4 with e|⟨y,hy,y1,y2⟩
       · exact .inl e
       · exact .inr ⟨y,(hmem y).2 (.inl hy),y1,y2⟩
theorem zhN {w:Wear} (V:WearOk w) {known m f t t':Int} (h:t≤t'):zhO w known m f t≤zhO w known m f t':=by
 refine zgY (fun i hi=>by have:=(zlc V hi).min;omega) (fun i hi hp=>?_)
 simp only [zg6,Bool.and_eq_true,decide_eq_true_eq] at hp ⊢
 exact ⟨hp.1,hp.2.1,by omega⟩
theorem zdH {w:Wear} (V:WearOk w) {known m f f' t t':Int} (h:t≤t') (hf:f'≤f):zex w known m f t≤zex w known m f' t':=by
 refine zgY (fun i hi=>by have:=(zlc V hi).min;omega) (fun i hi hp=>?_)
 simp only [zg6,Bool.and_eq_true,decide_eq_true_eq] at hp ⊢
 exact ⟨hp.1,by omega,by omega⟩
theorem zlg {w:Wear} (V:WearOk w) (known m f t:Int):(0≤zhO w known m f t∧zhO w known m f t≤86400)∧(0≤zex w known m f t∧zex w known m f t≤86400):=sum60 V _ (Nat.le_refl _)
structure OkBy (w:Wear) (known m:Int) (S:List mantle_sight) (x:Int):Prop where
 range:0≤x∧x≤1000000
 good:∀ s∈S,s.bad=false→zhO w known m (-1) s.night≤x
 bad:∀ s∈S,s.bad=true→x<zex w known m (-1) s.night
 two:∀ s∈S,∀ t∈S,s.bad=false→t.bad=true→s.night<t.night∧0<zex w known m s.night t.night
def zjU (w:Wear) (known m g b:Int):Range:=
 if g ≠ -1∧b ≠ -1∧(b≤g∨zex w known m g b=0) then ⟨1,0⟩ else ⟨if g ≠ -1 then zhO w known m (-1) g else 0,if b ≠ -1 then min 1000000 (zex w known m (-1) b - 1) else 1000000⟩
def inR (r:Range) (x:Int):Prop:=r.Lo≤x∧x≤r.Hi
theorem zmj {w:Wear} (V:WearOk w) {known:Int} {m:Nat} {S:List mantle_sight} {c:mantle_coat} (hc:CoatOk w known m S c) (hn:∀ x∈S,0≤x.night) {g b:Int} (he:Ends S g b):zbk c=some (zjU w known m g b):=by
 unfold zbk
 obtain ⟨r,e,hr⟩:=zof c (by rw [hc.sights];exact hn)
 rw [hc.sights] at hr
 obtain ⟨e1,e2⟩:=hr.uniq he
 have er:r=(g,b):=Prod.ext e1 e2
 subst er
 refine Wp.eq (zaP e ?_)
 have hb:=zlg V known m
 unfold zjU
 refine zgx (fun s=>s=if g ≠ -1 then zhO w known m (-1) g else 0) (fun K hK=>?_) (fun s hs=>?_)
 · refine zgs (fun h=>zaP (zks V hc _ _) (hK _ ?_)) (fun h=>hK _ ?_)
   · rw [if_pos h]
   · rw [if_neg (by omega)]
 subst hs
 refine zgx (fun s=>s=if b ≠ -1 then min 1000000 (zex w known m (-1) b - 1) else 1000000) (fun K hK=>?_) (fun s hs=>?_)
 · refine zgs (fun h=>zaP (zks V hc _ _) (zam (by have:=hb (-1) b;simp only;omega) (hK _ ?_))) (fun h=>hK _ ?_)
   · rw [if_pos h]
   · rw [if_neg (by omega)]
 subst hs
 refine zlm (Q:=fun y=>y=⟨zhO w known m g b,zex w known m g b⟩) (fun _=>⟨_,zks V hc _ _,rfl⟩) (fun y hy=>?_)
 simp only [Bool.and_eq_true,Bool.not_eq_true',decide_eq_false_iff_not] at hy
 refine zcz (fun h=>zaC ?_) (fun h=>zaC ?_)
 · simp only [Bool.and_eq_true,Bool.or_eq_true,Bool.not_eq_true',decide_eq_false_iff_not,decide_eq_true_eq] at h
   obtain ⟨⟨h1,h2⟩,h3⟩:=h
   have:b≤g∨zex w known m g b=0:=by
    rcases h3 with h3|h3
    · exact .inl h3
    · by_cases h4:b≤g
      · exact .inl h4
      · rw [hy ⟨⟨h1,h2⟩,h4⟩] at h3;exact .inr h3
   rw [if_pos ⟨h1,h2,this⟩]
 · have:¬ (g ≠ -1∧b ≠ -1∧(b≤g∨zex w known m g b=0)):=by
    rintro ⟨h1,h2,h3⟩
    have h5:(((!decide (g=(-1))) && (!decide (b=(-1)))) && ((decide (b≤g)) || (decide (y.Hi=0))))=true:=by
     simp only [Bool.and_eq_true,Bool.or_eq_true,Bool.not_eq_true',decide_eq_false_iff_not,decide_eq_true_eq]
     refine ⟨⟨h1,h2⟩,?_⟩
     by_cases h4:b≤g
     · exact .inl h4
     · rw [hy ⟨⟨h1,h2⟩,h4⟩];exact .inr (h3.resolve_left h4)
    rw [h5] at h;cases h
   rw [if_neg this]
theorem zkO {w:Wear} (V:WearOk w) {known m:Int} {S:List mantle_sight} (hn:∀ x∈S,0≤x.night) {g b:Int} (he:Ends S g b) (x:Int):inR (zjU w known m g b) x↔OkBy w known m S x:=by
 have hb:=zlg V known m
 unfold zjU
 by_cases hc:g ≠ -1∧b ≠ -1∧(b≤g∨zex w known m g b=0)
 · rw [if_pos hc]
   obtain ⟨c1,c2,c3⟩:=hc
   refine ⟨fun h=>by have:=h.1;have:=h.2;simp only at *;omega,fun h=>?_⟩
   obtain ⟨s,hs,s1,s2⟩:=he.good.resolve_left c1
   obtain ⟨t,ht,t1,t2⟩:=he.bad.resolve_left c2
   have:=h.two s hs t ht s1 t1
   rw [s2,t2] at this
   omega
 · rw [if_neg hc]
   unfold inR
   simp only
   constructor
   · rintro ⟨h1,h2⟩
     refine ⟨?_,fun s hs sb=>?_,fun s hs sb=>?_,fun s hs t ht sb tb=>?_⟩
     · have:=hb (-1) g;have:=hb (-1) b
       constructor
       · split at h1 <;> omega
       · split at h2 <;> omega
     · have a:=he.top s hs sb
       have a0:=hn s hs
       rw [if_pos (by omega)] at h1
       have:=zhN V (known:=known) (m:=m) (f:=-1) a
       omega
     · have a:=he.low s hs sb
       rw [if_pos a.1] at h2
       have:=zdH V (known:=known) (m:=m) (f:=-1) a.2 (Int.le_refl _)
       omega
     · have a:=he.top s hs sb
       have a0:=hn s hs
       have a2:=he.low t ht tb
       have:¬ (b≤g∨zex w known m g b=0):=fun h=>hc ⟨by omega,a2.1,h⟩
       have h3:0<zex w known m g b:=by have:=hb g b;omega
       have h4:=zdH V (known:=known) (m:=m) (f:=g) (f':=s.night) a2.2 a
       exact ⟨by omega,by omega⟩
   · intro h
     have hr:=h.range
     constructor
     · by_cases c1:g ≠ -1
       · rw [if_pos c1]
         obtain ⟨s,hs,s1,s2⟩:=he.good.resolve_left c1
         rw [← s2];exact h.good s hs s1
       · rw [if_neg c1];exact hr.1
     · by_cases c2:b ≠ -1
       · rw [if_pos c2]
         obtain ⟨t,ht,t1,t2⟩:=he.bad.resolve_left c2
         have:=h.bad t ht t1
         rw [t2] at this;omega
       · rw [if_neg c2];exact hr.2
theorem zog (S:List mantle_sight) (hn:∀ x∈S,0≤x.night):∃ g b,Ends S g b:=by
 obtain ⟨r,_,h⟩:=zof ⟨zoh,[],S⟩ hn
 exact ⟨_,_,h⟩
theorem znc {c:mantle_coat} {w:Wear} {known:Int} {m:Nat} {S:List mantle_sight} (hc:CoatOk w known m S c) (x:mantle_sight) (hl:S.length≤1000000):Wp (zbw c x) (fun r=>CoatOk w known m (S++[x]) r):=by
 unfold zbw zbD
 have e:=hc.sights
 refine wp_bind (Q:=fun y=>y=S) (zcf (by rw [e];simp [-List.getD_eq_getElem?_getD];omega) (zaC (by rw [e];simp [-List.getD_eq_getElem?_getD]))) (fun y hy=>?_)
 subst hy
 exact zcf (by simp [-List.getD_eq_getElem?_getD];omega) (zaC ⟨hc.wear,hc.burns,rfl⟩)
end Go.Sp
end
/- Plain laws, mantle: the closet that hang fills. No program in sight. -/
section
set_option linter.all false
namespace Go.Sp
open Go.Av
set_option maxRecDepth 100000
def ba (w:Wear) (i:Nat):Batch:=w.Batches.getD i default
def bat (w:Wear) (i:Nat):Int:=zdX w (mt w i).Batch
theorem zlf {w:Wear} (V:WearOk w) {i:Nat} (hi:i<w.Mantles.length):0≤bat w i∧bat w i<(w.Batches.length:Int):=by
 refine ⟨?_,zos w _⟩
 rcases Int.lt_or_le (bat w i) 0 with h|h
 · exact absurd (V.has i hi) (zhL.1 h)
 · exact h
structure Hung (w:Wear) (known:Int) (S:Nat→List mantle_sight) (c:mantle_closet):Prop where
 wear:c.w=w
 asof:c.known=known
 coats:∀ i:Nat,i<w.Mantles.length→∃ x,c.coats.get (i:Int)=some x∧CoatOk w known i (S i) x
 len:c.lives.length=w.Batches.length
 lives:∀ b:Nat,b<w.Batches.length→∀ x,inR (c.lives.getD b default) x↔inR (ba w b).Life x∧∀ i,i<w.Mantles.length→bat w i=(b:Int)→OkBy w known i (S i) x
 nights:∀ i,i<w.Mantles.length→∀ s∈S i,0≤s.night
 few:∀ i,i<w.Mantles.length→(S i).length≤1000
def lk (l:List Look) (i:Nat):Look:=l.getD i default
def zdY (w:Wear) (known:Int) (l:List Look) (m:Nat):Nat→List mantle_sight
 | 0=>[]
 | n+1=>if fit w (lk l n).Lamp (lk l n).Night known=(m:Int)∧zav (lk l n).Known (lk l n).Until known=true then zdY w known l m n++[⟨(lk l n).Night,(lk l n).Bad⟩] else zdY w known l m n
def sights (w:Wear) (known:Int) (l:List Look) (m:Nat):List mantle_sight:=zdY w known l m l.length
theorem zei {w:Wear} {known:Int} {l:List Look} {m:Nat} {s:mantle_sight}:∀ {n:Nat},s∈zdY w known l m n↔∃ i,i<n∧fit w (lk l i).Lamp (lk l i).Night known=(m:Int)∧zav (lk l i).Known (lk l i).Until known=true∧s=⟨(lk l i).Night,(lk l i).Bad⟩
 | 0=>⟨fun h=>(by cases h),fun ⟨i,hi,_⟩=>absurd hi (Nat.not_lt_zero _)⟩
 | n+1=>by
  unfold zdY
  by_cases hc:fit w (lk l n).Lamp (lk l n).Night known=(m:Int)∧zav (lk l n).Known (lk l n).Until known=true
  · rw [if_pos hc,List.mem_append,List.mem_singleton,zei]
    constructor
    · rintro (⟨i,hi,h⟩|h)
      · exact ⟨i,by omega,h⟩
      · exact ⟨n,by omega,hc.1,hc.2,h⟩
    · rintro ⟨i,hi,h⟩
      by_cases e:i=n
      · subst e;exact .inr h.2.2
      · exact .inl ⟨i,by omega,h⟩
  · rw [if_neg hc,zei]
    constructor
    · rintro ⟨i,hi,h⟩;exact ⟨i,by omega,h⟩
    · rintro ⟨i,hi,h⟩
      by_cases e:i=n
      · subst e;exact absurd ⟨h.1,h.2.1⟩ hc
      · exact ⟨i,by omega,h⟩
theorem zgB {w:Wear} {known:Int} {l:List Look} {m:Nat}:∀ n,(zdY w known l m n).length≤n
 | 0=>by simp [-List.getD_eq_getElem?_getD,zdY]
 | n+1=>by
  unfold zdY
  have:=zgB (w:=w) (known:=known) (l:=l) (m:=m) n
  split
  · simp [-List.getD_eq_getElem?_getD];omega
  · omega
theorem zmz {a b:Range} {x:Int}:inR (zaU a b) x↔inR a x∧inR b x:=by
 unfold zaU inR;simp only;omega
theorem zpY (c:mantle_closet) (hl:c.w.Mantles.length≤60):zbA c=some ((List.range' 0 c.w.Mantles.length).map (fun i:Nat=>((i:Int),(c.coats.get (i:Int)).getD default))):=by
 unfold zbA
 rw [zgc (by omega),zm3 (fun _=>true) (fun i:Nat=>((i:Int),(c.coats.get (i:Int)).getD default)) (fun i r hi=>rfl)]
 rw [List.filter_eq_self.2 (fun _ _=>rfl)]
theorem zpD {A S R:Type} {body:A→S→(S→Option R)→Option R} {ex:S→Option R} {s0:S} {P:R→Prop} (n:Nat) (f:Nat→A) (Inv:Nat→S→Prop) (h0:Inv 0 s0)
 (hb:∀ (j:Nat) s (K:S→Option R),j<n→Inv j s→(∀ s',Inv (j+1) s'→Wp (K s') P)→Wp (body (f j) s K) P) (he:∀ s,Inv n s→Wp (ex s) P):Wp (zhY body ex ((List.range' 0 n).map f) s0) P:=by
 have go:∀ (m j:Nat),j+m=n→∀ s,Inv j s→Wp (zhY body ex ((List.range' j m).map f) s) P:=by
  intro m
  induction m with
  | zero=>intro j hj s hs;have e:j=n:=(by omega);subst e;exact he s hs
  | succ m ih=>
   intro j hj s hs
   rw [List.range'_succ,List.map_cons]
   exact hb j s _ (by omega) hs (fun s' h'=>ih (j+1) (by omega) s' h')
 exact go n 0 (by omega) s0 h0
theorem zny {c:mantle_closet} {b:Nat} (hb:b<c.lives.length) (r:Range):zbl c (b:Int) r=some ⟨c.w,c.known,c.coats,c.lives.set b (zaU (c.lives.getD b default) r)⟩:=by
 unfold zbl
 rw [zgc (by omega),zgc (by omega)]
 rfl
theorem Mp.zj3 {T:Type} (m:Mp T) (k j:Int) (x:T):(m.set k x).get j=if j=k then some x else m.get j:=rfl
theorem znT {w:Wear} (V:WearOk w) {fuel:Nat} (hf:1000≤fuel) {l:List Look} (hl:l.length≤1000) (hn:∀ x∈l,0≤x.Night) (known:Int):Wp (zch fuel w l known) (fun c=>Hung w known (sights w known l) c):=by
 have nm:=V.nm;have nb:=V.nb
 unfold zch
 refine wp_bind (zpk V hf known) (fun y1 hy1=>zay (by omega) ?_)
 refine zey (fun i s=>∀ j:Nat,j<i→∃ x,s.get (j:Int)=some x∧CoatOk w known j [] x) (fun j hj=>absurd hj (Nat.not_lt_zero _)) (fun i s K hi hI hK=>hK _ (fun j hj=>?_)) (fun s3 h3=>?_)
 · by_cases e:j=i
   · subst e
     exact ⟨_,by rw [Mp.zj3,if_pos rfl],rfl,hy1 _,rfl⟩
   · rw [Mp.zj3,if_neg (by omega)]
     exact hI j (by omega)
 refine zey (fun i s=>∀ j:Nat,j<w.Mantles.length→∃ x,s.get (j:Int)=some x∧CoatOk w known j (zdY w known l j i) x) h3 (fun i s K hi hI hK=>?_) (fun s5 h5=>?_)
 · refine zaP (ziR w _ _ known) ?_
   have hfl:=zjv w (l.getD i default).Lamp (l.getD i default).Night known
   refine zcz (fun h=>?_) (fun h=>hK _ (fun j hj=>?_))
   · simp only [Bool.and_eq_true,decide_eq_true_eq] at h
     obtain ⟨m,hm⟩:∃ m:Nat,fit w (l.getD i default).Lamp (l.getD i default).Night known=(m:Int):=⟨_,(Int.toNat_of_nonneg h.1).symm⟩
     rw [hm] at hfl ⊢
     obtain ⟨x,e,hx⟩:=hI m (by omega)
     rw [e]
     refine wp_bind (znc hx _ (by have:=zgB (w:=w) (known:=known) (l:=l) (m:=m) i;omega)) (fun y hy=>hK _ (fun j hj=>?_))
     by_cases ej:j=m
     · subst ej
       refine ⟨y,by rw [Mp.zj3,if_pos rfl],?_⟩
       unfold zdY
       rw [if_pos ⟨hm,h.2⟩]
       exact hy
     · rw [Mp.zj3,if_neg (by omega)]
       unfold zdY
       rw [if_neg (fun h'=>ej (by have:=h'.1.symm.trans hm;omega))]
       exact hI j hj
   · unfold zdY
     rw [if_neg (fun h'=>?_)]
     · exact hI j hj
     · rw [Bool.and_eq_false_iff,decide_eq_false_iff_not] at h
       rcases h with h|h
       · exact h (by have:=h'.1;unfold lk at this;omega)
       · have:=h'.2;unfold lk at this;rw [this] at h;cases h
 refine zey (fun i s=>s.length=i∧∀ b,b<i→s.getD b default=(ba w b).Life) ⟨rfl,fun b hb=>absurd hb (Nat.not_lt_zero _)⟩ (fun i s K hi hI hK=>zcf (by simp [-List.getD_eq_getElem?_getD];omega) (hK _ ⟨by simp [-List.getD_eq_getElem?_getD,hI.1],fun b hb=>?_⟩)) (fun s12 h12=>?_)
 · rw [zcn]
   by_cases e:b=s.length
   · rw [if_pos e,e,hI.1];rfl
   · rw [if_neg e];exact hI.2 b (by omega)
 refine zaP (zpY _ nm) ?_
 refine zpD w.Mantles.length _ (fun j s=>s.length=w.Batches.length∧∀ b:Nat,b<w.Batches.length→∀ x,inR (s.getD b default) x↔inR (ba w b).Life x∧∀ i,i<j→bat w i=(b:Int)→OkBy w known i (sights w known l i) x)
  ⟨h12.1,fun b hb x=>by rw [h12.2 b hb];exact ⟨fun h=>⟨h,fun i hi=>absurd hi (Nat.not_lt_zero _)⟩,fun h=>h.1⟩⟩ (fun j s K hj hI hK=>?_) (fun s hs=>zaC ?_)
 · obtain ⟨x,e,hx⟩:=h5 j hj
   have hsn:∀ y∈sights w known l j,0≤y.night:=fun y hy=>by
    obtain ⟨i,hi,_,_,e⟩:=zei.1 hy
    rw [e];exact hn _ (zcV hi)
   obtain ⟨g,b,he⟩:=zog (sights w known l j) hsn
   refine zay (by omega) (zaP (zhK w _) ?_)
   simp only [Int.toNat_natCast]
   have hbt:=zlf V hj
   have ebt:zdX w (w.Mantles.getD j default).Batch=bat w j:=rfl
   rw [e,ebt]
   obtain ⟨q,hq⟩:∃ q:Nat,bat w j=(q:Int):=⟨_,(Int.toNat_of_nonneg hbt.1).symm⟩
   rw [hq] at hbt ⊢
   refine zaP (zmj V hx hsn he) (zaP (zny (c:=⟨w,known,s5,s⟩) (by simp only;omega) _) (zay (by simp [-List.getD_eq_getElem?_getD]) (hK _ ⟨by simp [-List.getD_eq_getElem?_getD,hI.1],fun b' hb' y=>?_⟩)))
   have hlm:=zkO V hsn he y (known:=known) (m:=(j:Int))
   simp only
   rw [zmo _ _ _ _ _ (by omega)]
   by_cases eb:b'=q
   · subst eb
     rw [if_pos rfl,zmz,hI.2 b' hb',hlm]
     constructor
     · rintro ⟨⟨a1,a2⟩,a3⟩
       refine ⟨a1,fun i hi hbi=>?_⟩
       by_cases ei:i=j
       · rw [ei];exact a3
       · exact a2 i (by omega) hbi
     · rintro ⟨a1,a2⟩
       exact ⟨⟨a1,fun i hi hbi=>a2 i (by omega) hbi⟩,a2 j (by omega) hq⟩
   · rw [if_neg eb,hI.2 b' hb']
     constructor
     · rintro ⟨a1,a2⟩
       refine ⟨a1,fun i hi hbi=>?_⟩
       by_cases ei:i=j
       · rw [ei,hq] at hbi;omega
       · exact a2 i (by omega) hbi
     · rintro ⟨a1,a2⟩
       exact ⟨a1,fun i hi hbi=>a2 i (by omega) hbi⟩
 · refine ⟨rfl,rfl,h5,hs.1,hs.2,fun i hi y hy=>?_,fun i hi=>?_⟩
   · obtain ⟨k,hk,_,_,e⟩:=zei.1 hy
     rw [e];exact hn _ (zcV hk)
   · exact Nat.le_trans (zgB _) hl
def zc3 (w:Wear) (known:Int) (S:Nat→List mantle_sight):Prop:=∀ b:Nat,b<w.Batches.length→∃ x,inR (ba w b).Life x∧∀ i,i<w.Mantles.length→bat w i=(b:Int)→OkBy w known i (S i) x
theorem zmU {w:Wear} {known:Int} {S:Nat→List mantle_sight} {c:mantle_closet} (h:Hung w known S c):Wp (zaR c) (fun r=>r=true↔zc3 w known S):=by
 unfold zaR
 refine zaP (show zbx c.lives _=_ from zeC (q:=zaS) (fun x=>rfl) _) (zaC ?_)
 rw [Bool.not_eq_true',List.any_eq_false]
 constructor
 · intro h1 b hb
   have h2:=h1 _ (zcV (l:=c.lives) (i:=b) (by rw [h.len];exact hb))
   have h3:(c.lives.getD b default).Lo≤(c.lives.getD b default).Hi:=by
    simp only [zaS,decide_eq_true_eq] at h2;omega
   exact ⟨_,(h.lives b hb _).1 ⟨Int.le_refl _,h3⟩⟩
 · intro h1 r hr
   obtain ⟨b,hb,rfl⟩:=zdK hr
   obtain ⟨x,hx⟩:=h1 b (by rw [← h.len];exact hb)
   have:=(h.lives b (by rw [← h.len];exact hb) x).2 hx
   unfold inR at this
   simp only [zaS,decide_eq_true_eq];omega
end Go.Sp
end
/- Plain laws, mantle: whether a mantle is bad. No program in sight. -/
section
set_option linter.all false
namespace Go.Sp
open Go.Av
set_option maxRecDepth 100000
def zeO (w:Wear) (known:Int) (S:Nat→List mantle_sight) (m:Nat) (night:Int) (bad:Bool):Prop:=
 ∃ x,(inR (ba w (bat w m).toNat).Life x∧∀ i,i<w.Mantles.length→bat w i=bat w m→OkBy w known i (S i) x)∧OkBy w known m (S m++[⟨night,bad⟩]) x
open Classical in
noncomputable def stateR (w:Wear) (known:Int) (S:Nat→List mantle_sight) (m:Nat) (night:Int):Int:=
 if ¬ zeO w known S m night true then 0 else if ¬ zeO w known S m night false then 1 else 2
theorem zpm {w:Wear} {known:Int} {S:Nat→List mantle_sight} {c:mantle_closet} (h:Hung w known S c) {m:Nat} (hm:m<w.Mantles.length):za5 c (m:Int)=some (bat w m):=by
 unfold za5
 rw [h.wear,zgc (by omega)]
 refine Wp.eq (zaP (zhK w _) (zaC ?_))
 rfl
theorem zpz {w:Wear} (V:WearOk w) {known:Int} {S:Nat→List mantle_sight} {c:mantle_closet} (h:Hung w known S c) {m:Nat} (hm:m<w.Mantles.length) {night:Int} (hn:0≤night) (bad:Bool) :
 Wp (zbE c (m:Int) night bad) (fun r=>∀ x,inR r x↔(inR (ba w (bat w m).toNat).Life x∧∀ i,i<w.Mantles.length→bat w i=bat w m→OkBy w known i (S i) x)∧OkBy w known m (S m++[⟨night,bad⟩]) x):=by
 unfold zbE
 have hb:=zlf V hm
 obtain ⟨x,e,hx⟩:=h.coats m hm
 obtain ⟨q,hq⟩:∃ q:Nat,bat w m=(q:Int):=⟨_,(Int.toNat_of_nonneg hb.1).symm⟩
 refine zaP (zpm h hm) ?_
 rw [hq] at hb ⊢
 refine zay (by rw [h.len];omega) ?_
 rw [e]
 refine wp_bind (znc hx _ (by have:=h.few m hm;omega)) (fun y hy=>?_)
 have hsn:∀ s∈S m++[⟨night,bad⟩],0≤s.night:=fun s hs=>by
  rcases List.mem_append.1 hs with hs|hs
  · exact h.nights m hm s hs
  · rw [List.mem_singleton] at hs;subst hs;exact hn
 obtain ⟨g,b,he⟩:=zog _ hsn
 refine zaP (zmj V hy hsn he) (zaC (fun z=>?_))
 rw [zmz,zkO V hsn he,Int.toNat_natCast,h.lives q (by omega)]
theorem zme {r:Range}:zaS r=true↔∀ x,¬ inR r x:=by
 unfold zaS inR
 rw [decide_eq_true_eq]
 exact ⟨fun h x hx=>by omega,fun h=>by have:=h r.Lo;omega⟩
theorem zoE {w:Wear} (V:WearOk w) {known:Int} {S:Nat→List mantle_sight} {c:mantle_closet} (h:Hung w known S c) {m:Nat} (hm:m<w.Mantles.length) {night:Int} (hn:0≤night):zaT c (m:Int) night=some (stateR w known S m night):=by
 unfold zaT
 refine Wp.eq (wp_bind (zpz V h hm hn true) (fun y1 h1=>?_))
 have e1:zaS y1=true↔¬ zeO w known S m night true:=by
  rw [zme]
  exact ⟨fun k ⟨x,hx⟩=>k x ((h1 x).2 hx),fun k x hx=>k ⟨x,(h1 x).1 hx⟩⟩
 unfold stateR
 refine zcz (fun hb=>zaC ?_) (fun hb=>wp_bind (zpz V h hm hn false) (fun y4 h4=>?_))
 · rw [if_pos (e1.1 hb)]
 have c1:¬ ¬ zeO w known S m night true:=fun k=>by rw [e1.2 k] at hb;cases hb
 rw [if_neg c1]
 have e4:zaS y4=true↔¬ zeO w known S m night false:=by
  rw [zme]
  exact ⟨fun k ⟨x,hx⟩=>k x ((h4 x).2 hx),fun k x hx=>k ⟨x,(h4 x).1 hx⟩⟩
 refine zcz (fun hb=>zaC ?_) (fun hb=>zaC ?_)
 · rw [if_pos (e4.1 hb)]
 · rw [if_neg (fun k=>by rw [e4.2 k] at hb;cases hb)]
def zaW (n:Int):Prop:=0≤n∧n≤100000
instance (n:Int):Decidable (zaW n):=inferInstanceAs (Decidable (_∧_))
theorem ziM {n:Int}:zaK n=true↔zaW n:=by simp [-List.getD_eq_getElem?_getD,zaK,zaJ,zaW]
theorem znw {w:Wear} (V:WearOk w) {l:List Int} (h:∀ n∈l,zaW n):zbJ w l=some 0:=by
 unfold zbJ
 refine Wp.eq (zaP (ziF V) (zcO (by simp [-List.getD_eq_getElem?_getD]) (zaP (show zbi l _=_ from zeC (q:=zbj) (fun x=>rfl) _) ?_)))
 refine zcO ?_ (zaC rfl)
 rw [List.any_eq_false]
 intro n hn
 simp [-List.getD_eq_getElem?_getD,zbj,ziM.2 (h n hn)]
theorem zmP {w:Wear} (V:WearOk w) {l:List Int} (h:¬ ∀ n∈l,zaW n):zbJ w l=some 6:=by
 unfold zbJ
 refine Wp.eq (zaP (ziF V) (zcO (by simp [-List.getD_eq_getElem?_getD]) (zaP (show zbi l _=_ from zeC (q:=zbj) (fun x=>rfl) _) ?_)))
 refine zef ?_ (zaC rfl)
 rw [List.any_eq_true]
 refine Classical.byContradiction (fun k=>h (fun n hn=>?_))
 refine Classical.byContradiction (fun k2=>k ⟨n,hn,?_⟩)
 unfold zbj
 cases h3:zaK n with
 | false=>rfl
 | true=>exact absurd (ziM.1 h3) k2
def zbf (w:Wear) (lamp night known:Int):Int:=if ¬ (1≤lamp∧lamp≤999) then 1 else if ¬ (zaW night∧zaW known) then 6 else if fit w lamp night known<0 then 66 else 0
theorem zkR {w:Wear} {lamp night known:Int} (h:¬ (1≤lamp∧lamp≤999)):zbf w lamp night known=1:=by unfold zbf;exact if_pos h
theorem zkQ {w:Wear} {lamp night known:Int} (h:1≤lamp∧lamp≤999) (h2:¬ (zaW night∧zaW known)):zbf w lamp night known=6:=by
 unfold zbf
 exact (if_neg (fun k=>k h)).trans (if_pos h2)
theorem zhu {w:Wear} {lamp night known:Int} (h:1≤lamp∧lamp≤999) (h2:zaW night∧zaW known) (h3:fit w lamp night known<0):zbf w lamp night known=66:=by
 unfold zbf
 exact (if_neg (fun k=>k h)).trans ((if_neg (fun k=>k h2)).trans (if_pos h3))
theorem ziK {w:Wear} {lamp night known:Int} (h:1≤lamp∧lamp≤999) (h2:zaW night∧zaW known) (h3:¬ fit w lamp night known<0):zbf w lamp night known=0:=by
 unfold zbf
 exact (if_neg (fun k=>k h)).trans ((if_neg (fun k=>k h2)).trans (if_neg h3))
theorem ziJ {w:Wear} (V:WearOk w) (lamp night known:Int):zcg w lamp night known=some (if zbf w lamp night known=0 then fit w lamp night known else 0,zbf w lamp night known):=by
 unfold zcg
 refine Wp.eq (zaP (ziF V) (zcO (by simp [-List.getD_eq_getElem?_getD]) ?_))
 have e:(!(zaN lamp))=decide (¬ (1≤lamp∧lamp≤999)):=by
  rw [Bool.eq_iff_iff];simp [-List.getD_eq_getElem?_getD,zaN,zaJ]
 rw [e]
 refine zck (fun h=>zaC ?_) (fun h=>?_)
 · rw [zkR h];rfl
 have h:=Classical.not_not.1 h
 by_cases hn:zaW night∧zaW known
 · refine zaP (znw V (fun n hn'=>by
    simp only [List.mem_cons,List.not_mem_nil,or_false] at hn'
    rcases hn' with rfl|rfl
    · exact hn.1
    · exact hn.2)) (zcO (by simp [-List.getD_eq_getElem?_getD]) (zaP (ziR w _ _ _) ?_))
   refine zck (fun h2=>zaC ?_) (fun h2=>zaC ?_)
   · rw [zhu h hn h2];rfl
   · rw [ziK h hn h2];rfl
 · rw [zkQ h hn]
   exact zaP (zmP V (fun k=>hn ⟨k night (by simp [-List.getD_eq_getElem?_getD]),k known (by simp [-List.getD_eq_getElem?_getD])⟩)) (zef (by simp [-List.getD_eq_getElem?_getD]) (zaC rfl))
theorem zfH {w:Wear} {lamp night known:Int} (h:zbf w lamp night known=0):(1≤lamp∧lamp≤999)∧zaW night∧zaW known∧0≤fit w lamp night known:=by
 by_cases h1:1≤lamp∧lamp≤999
 · by_cases h2:zaW night∧zaW known
   · by_cases h3:fit w lamp night known<0
     · rw [zhu h1 h2 h3] at h;omega
     · exact ⟨h1,h2.1,h2.2,by omega⟩
   · rw [zkQ h1 h2] at h;omega
 · rw [zkR h1] at h;omega
end Go.Sp
end
/- Plain laws, mantle: the document's lives and states. No program in sight. -/
section
set_option linter.all false
namespace Go.Sp
open Go.Av
set_option maxRecDepth 100000
structure ToldL (known:Int) (L:List Look):Prop where
 few:L.length≤900
 night:∀ l∈L,0≤l.Night
 cnt:∀ l∈L,zav l.Known l.Until known=true
def tells (w:Wear) (known:Int) (l:Look):Bool:=decide (0≤fit w l.Lamp l.Night known) && zav l.Known l.Until known
def zoD (w:Wear) (known:Int):List Look:=w.Looks.filter (tells w known)
theorem look_ok {w:Wear} (V:WearOk w) {l:Look} (h:l∈w.Looks):zjJ l:=V.lo.ok h
theorem zpG {w:Wear} (V:WearOk w) {i j:Nat} (hi:i<w.Mantles.length) (hj:j<w.Mantles.length) (e:(mt w i).Source=(mt w j).Source):i=j:=V.ma.inj hi hj e
theorem id_inj {w:Wear} (V:WearOk w) {i j:Nat} (hi:i<w.Batches.length) (hj:j<w.Batches.length) (e:(ba w i).Id=(ba w j).Id):i=j:=V.ba.inj hi hj e
theorem znM {w:Wear} (V:WearOk w) {q:Nat} (hq:q<w.Batches.length) {x:Int} (h:inR (ba w q).Life x):0≤x∧x≤1000000:=by
 have:=(V.ba q hq).1.life
 unfold inR ba at h
 omega
theorem zp2 {w:Wear} (V:WearOk w) {i q:Nat} (hi:i<w.Mantles.length) (hq:q<w.Batches.length):bat w i=(q:Int)↔(mt w i).Batch=(ba w q).Id:=by
 have hb:=zlf V hi
 have e:=zot (w:=w) (id:=(mt w i).Batch) hb.1
 constructor
 · intro h
   rw [show zdX w (mt w i).Batch=(q:Int) from h] at e
   exact e.symm
 · intro h
   have:=id_inj V (i:=(bat w i).toNat) (by omega) hq (e.trans h)
   omega
def zmC (w:Wear) (known:Int) (S:Nat→List mantle_sight) (q:Nat) (x:Int):Prop:=inR (ba w q).Life x∧∀ i,i<w.Mantles.length→bat w i=(q:Int)→OkBy w known i (S i) x
end Go.Sp
end
/- Plain laws, mantle: states by both; MantleAges. No program in sight. -/
section
set_option linter.all false
namespace Go.Sp
open Go.Av
set_option maxRecDepth 100000
theorem zoH {w:Wear} {known:Int} {S:Nat→List mantle_sight} {m:Nat} {night:Int} (h:¬ zeO w known S m night true):stateR w known S m night=0:=by unfold stateR;exact if_pos h
theorem zoG {w:Wear} {known:Int} {S:Nat→List mantle_sight} {m:Nat} {night:Int} (h:zeO w known S m night true) (h2:¬ zeO w known S m night false):stateR w known S m night=1:=by unfold stateR;exact (if_neg (fun k=>k h)).trans (if_pos h2)
theorem zoF {w:Wear} {known:Int} {S:Nat→List mantle_sight} {m:Nat} {night:Int} (h:zeO w known S m night true) (h2:zeO w known S m night false):stateR w known S m night=2:=by unfold stateR;exact (if_neg (fun k=>k h)).trans (if_neg (fun k=>k h2))
end Go.Sp
end
/- Plain laws, mantle: State, Age, Fitted by both; MantleAges. No program in sight. -/
section
set_option linter.all false
namespace Go.Sp
open Go.Av
set_option maxRecDepth 100000
theorem znK {w:Wear} (V:WearOk w):w.Looks.length≤1000∧∀ x∈w.Looks,0≤x.Night:=⟨by have:=V.nl;omega,fun x hx=>(look_ok V hx).night.1⟩
abbrev allS (w:Wear) (known:Int):Nat→List mantle_sight:=sights w known w.Looks
theorem zoI {w:Wear} (V:WearOk w) {fuel:Nat} (hf:1000≤fuel) (known:Int):Wp (zdk fuel w known) (fun r=>(zc3 w known (allS w known)∧r.2=0∧Hung w known (allS w known) r.1)∨(¬ zc3 w known (allS w known)∧r.2=65)):=by
 unfold zdk
 refine wp_bind (znT V hf (znK V).1 (znK V).2 known) (fun c hc=>wp_bind (zmU hc) (fun b hb=>?_))
 refine zcz (fun h=>zaC (.inr ⟨fun k=>?_,rfl⟩)) (fun h=>zaC (.inl ⟨hb.1 (by simpa [-List.getD_eq_getElem?_getD] using h),rfl,hc⟩))
 rw [hb.2 k] at h;cases h
open Classical in
noncomputable def stateV (w:Wear) (lamp night known:Int):Int×Int:=
 if zbf w lamp night known≠0 then (0,zbf w lamp night known) else if zc3 w known (allS w known) then (stateR w known (allS w known) (fit w lamp night known).toNat night,0) else (0,65)
theorem zmH {w:Wear} {lamp night known:Int} (h:zbf w lamp night known≠0):stateV w lamp night known=(0,zbf w lamp night known):=by unfold stateV;exact if_pos h
theorem zis {w:Wear} {lamp night known:Int} (h:zbf w lamp night known=0) (h2:zc3 w known (allS w known)):stateV w lamp night known=(stateR w known (allS w known) (fit w lamp night known).toNat night,0):=by unfold stateV;exact (if_neg (fun k=>k h)).trans (if_pos h2)
theorem zkx {w:Wear} {lamp night known:Int} (h:zbf w lamp night known=0) (h2:¬ zc3 w known (allS w known)):stateV w lamp night known=(0,65):=by unfold stateV;exact (if_neg (fun k=>k h)).trans (if_neg h2)
theorem zkN {w:Wear} (V:WearOk w) {fuel:Nat} (hf:1000≤fuel) (lamp night known:Int):zce fuel w lamp night known=some (stateV w lamp night known):=by
 unfold zce
 refine Wp.eq (zaP (ziJ V lamp night known) ?_)
 refine zgs (fun h=>zaC (zmH h).symm) (fun h=>?_)
 have h:zbf w lamp night known=0:=h
 obtain ⟨h1,h2,h3,h4⟩:=zfH h
 simp only [h,if_true]
 have hlt:=zjv w lamp night known
 obtain ⟨m,hm⟩:∃ m:Nat,fit w lamp night known=(m:Int):=⟨_,(Int.toNat_of_nonneg h4).symm⟩
 refine wp_bind (zoI V hf known) (fun r hr=>?_)
 rcases hr with ⟨k1,k2,k3⟩|⟨k1,k2⟩
 · refine zgs (fun h=>absurd k2 h) (fun _=>?_)
   rw [hm] at hlt ⊢
   refine zaP (zoE V k3 (by omega) h2.1) (zaC ?_)
   rw [zis h k1,hm,Int.toNat_natCast]
 · refine zgs (fun _=>zaC ?_) (fun h=>by omega)
   rw [zkx h k1,k2]
def ageV (w:Wear) (lamp night known:Int):Range×Int:=if zbf w lamp night known≠0 then (⟨0,0⟩,zbf w lamp night known) else (⟨zhO w known (fit w lamp night known) (-1) night,zex w known (fit w lamp night known) (-1) night⟩,0)
theorem zpp {w:Wear} {lamp night known:Int} (h:zbf w lamp night known≠0):ageV w lamp night known=(⟨0,0⟩,zbf w lamp night known):=by unfold ageV;exact if_pos h
theorem zlZ {w:Wear} {lamp night known:Int} (h:zbf w lamp night known=0):ageV w lamp night known=(⟨zhO w known (fit w lamp night known) (-1) night,zex w known (fit w lamp night known) (-1) night⟩,0):=by unfold ageV;exact if_neg (fun k=>k h)
theorem znI {w:Wear} (V:WearOk w) {fuel:Nat} (hf:1000≤fuel) (lamp night known:Int):zdD fuel w lamp night known=some (ageV w lamp night known):=by
 unfold zdD
 refine Wp.eq (zaP (ziJ V lamp night known) ?_)
 refine zgs (fun h=>zaC (zpp h).symm) (fun h=>?_)
 have h:zbf w lamp night known=0:=h
 obtain ⟨h1,h2,h3,h4⟩:=zfH h
 rw [zlZ h]
 simp only [h,if_true]
 have hlt:=zjv w lamp night known
 obtain ⟨m,hm⟩:∃ m:Nat,fit w lamp night known=(m:Int):=⟨_,(Int.toNat_of_nonneg h4).symm⟩
 rw [hm] at hlt ⊢
 refine wp_bind (znT V hf (l:=[]) (by simp [-List.getD_eq_getElem?_getD]) (fun x hx=>by cases hx) known) (fun c hc=>?_)
 obtain ⟨x,e,hx⟩:=hc.coats m (by omega)
 rw [e]
 exact zaP (zks V hx _ _) (zaC rfl)
def ziT (w:Wear) (lamp night known:Int):Int×Int:=if zbf w lamp night known≠0 then (0,zbf w lamp night known) else ((mt w (fit w lamp night known).toNat).Source,0)
theorem ziS {w:Wear} {lamp night known:Int} (h:zbf w lamp night known≠0):ziT w lamp night known=(0,zbf w lamp night known):=by unfold ziT;exact if_pos h
theorem zhz {w:Wear} {lamp night known:Int} (h:zbf w lamp night known=0):ziT w lamp night known=((mt w (fit w lamp night known).toNat).Source,0):=by unfold ziT;exact if_neg (fun k=>k h)
theorem zjr {w:Wear} (V:WearOk w) (lamp night known:Int):zcU w lamp night known=some (ziT w lamp night known):=by
 unfold zcU
 refine Wp.eq (zaP (ziJ V lamp night known) ?_)
 refine zgs (fun h=>zaC (ziS h).symm) (fun h=>?_)
 have h:zbf w lamp night known=0:=h
 obtain ⟨h1,h2,h3,h4⟩:=zfH h
 rw [zhz h]
 simp only [h,if_true]
 have hlt:=zjv w lamp night known
 exact zay ⟨h4,hlt.2⟩ (zaC rfl)
end Go.Sp
end
/- Plain laws, mantle: Life, Sound, Clash by both. No program in sight. -/
section
set_option linter.all false
namespace Go.Sp
open Go.Av
set_option maxRecDepth 100000
structure LifeV (w:Wear) (known:Int) (id:Int) (r:Range×Int):Prop where
 inv:¬ WearOk w→r=(⟨0,0⟩,64)
 day:WearOk w→¬ zaW known→r=(⟨0,0⟩,6)
 none:WearOk w→zaW known→zdX w id<0→r=(⟨0,0⟩,3)
 fals:WearOk w→zaW known→0≤zdX w id→¬ zc3 w known (allS w known)→r=(⟨0,0⟩,65)
 ok:WearOk w→zaW known→0≤zdX w id→zc3 w known (allS w known)→r.2=0∧∀ x,inR r.1 x↔zmC w known (allS w known) (zdX w id).toNat x
structure SoundV (w:Wear) (known:Int) (r:Bool×Int):Prop where
 inv:¬ WearOk w→r=(false,64)
 day:WearOk w→¬ zaW known→r=(false,6)
 ok:WearOk w→zaW known→r.2=0∧(r.1=true↔zc3 w known (allS w known))
def without (l:List Look) (i:Nat):List Look:=l.take i++l.drop (i+1)
open Classical in
noncomputable def clashF (w:Wear) (known:Int):Nat→List Look→List Look
 | 0,l=>l
 | n+1,l=>if zc3 w known (sights w known (without l n)) then clashF w known n l else clashF w known n (without l n)
structure ClashV (w:Wear) (known:Int) (r:List Int×Int):Prop where
 inv:¬ WearOk w→r=([],64)
 day:WearOk w→¬ zaW known→r=([],6)
 none:WearOk w→zaW known→zc3 w known (allS w known)→r=([],3)
 ok:WearOk w→zaW known→¬ zc3 w known (allS w known)→r=((clashF w known (zoD w known).length (zoD w known)).map (·.Source),0)
end Go.Sp
end
/- Plain laws, mantle: CheckClash by both; MantleLives. No program in sight. -/
section
set_option linter.all false
namespace Go.Sp
open Go.Av
set_option maxRecDepth 100000
structure Picks (w:Wear) (known:Int) (q:List Int) (n:Nat) (s:List Look):Prop where
 len:s.length=n
 mem:∀ j,j<n→lk s j∈zoD w known∧(lk s j).Source=q.getD j default
 ris:∀ j,0<j→j<n→q.getD (j - 1) default<q.getD j default
theorem Picks.all {w:Wear} {known:Int} {q:List Int} {n:Nat} {s:List Look} (h:Picks w known q n s):∀ l∈s,l∈zoD w known:=fun l hl=>by
 obtain ⟨i,hi,e⟩:=zdK hl
 have:=(h.mem i (by have:=h.len;omega)).1
 unfold lk at this
 rwa [e] at this
def CC (w:Wear) (known:Int) (q:List Int):Prop:=∃ s,Picks w known q q.length s∧¬ zc3 w known (sights w known s)∧∀ i,i<s.length→zc3 w known (sights w known (without s i))
structure CheckV (w:Wear) (known:Int) (q:List Int) (r:Int):Prop where
 inv:¬ WearOk w→r=64
 day:WearOk w→¬ zaW known→r=6
 yes:WearOk w→zaW known→CC w known q→r=0
 no:WearOk w→zaW known→¬ CC w known q→r=68
end Go.Sp
end
/- Plain laws, mantle: slices.Compact; a wear without a source; Moved by both; MantleMoves. No program in sight. -/
section
set_option linter.all false
namespace Go.Sp
open Go.Av
set_option maxRecDepth 100000
def zpR (w:Wear) (src:Int):Wear:=⟨w.Batches,w.Mantles.filter (fun m=>!decide (m.Source=src)),w.Burns.filter (fun b=>!decide (b.Source=src)),w.Looks.filter (fun l=>!decide (l.Source=src))⟩
def total (w:Wear):Nat:=w.Mantles.length+w.Burns.length+w.Looks.length
end Go.Sp
end
/- Plain laws, mantle: Moved by both; MantleMoves. No program in sight. -/
section
set_option linter.all false
namespace Go.Sp
open Go.Av
set_option maxRecDepth 100000
def Moves (w:Wear) (src night known:Int) (lamp:Int):Prop:=stateV w lamp night known≠stateV (zpR w src) lamp night known
structure MovedV (w:Wear) (src night known:Int) (r:List Int×Int):Prop where
 inv:¬ WearOk w→r=([],64)
 day:WearOk w→¬ (zaW night∧zaW known)→r=([],6)
 none:WearOk w→zaW night∧zaW known→¬ total (zpR w src)<total w→r=([],3)
 ok:WearOk w→zaW night∧zaW known→total (zpR w src)<total w→r.2=0∧r.1.Pairwise (· < ·)∧(∀ x,x∈r.1↔(∃ j,j<w.Mantles.length∧(mt w j).Lamp=x)∧Moves w src night known x)∧r.1.length≤60
end Go.Sp
end
/- Plain laws, mantle: the wears that numbers determine. No program in sight. -/
section
set_option linter.all false
namespace Go.Sp
open Go.Av
set_option maxRecDepth 100000
theorem zdj {n m:Int} (hm:0<m∧m≤1000000):Wp (zar n m) (fun r=>0≤r∧r<m):=by
 unfold zar
 have h1:=Int.tmod_lt_of_pos n hm.1
 have h2 : -m<Int.tmod n m:=by
  have:=Int.tmod_lt_of_pos (-n) hm.1
  rw [Int.neg_tmod] at this
  omega
 refine zay (by omega) (zam (by omega) (zay (by omega) (zaC ⟨Int.tmod_nonneg _ (by omega),Int.tmod_lt_of_pos _ hm.1⟩)))
theorem zns {l:List Int} {i:Int} (hi:0≤i):Wp (zbF l i) (fun _=>True):=by
 unfold zbF
 refine zck (fun _=>zaC trivial) (fun h=>?_)
 have h0:(0:Int)<(l.length:Int):=by omega
 exact zay (by omega) (zay ⟨Int.tmod_nonneg _ hi,Int.tmod_lt_of_pos _ h0⟩ (zaC trivial))
structure TrueT (w:Wear) (t:Lives):Prop where
 nl:t.Lives.length=w.Batches.length
 lives:∀ i,i<w.Batches.length→inR (ba w i).Life (t.Lives.getD i default)
 nm:t.Minutes.length=w.Burns.length
 mins:∀ i,i<w.Burns.length→(bn w i).Minutes.Lo≤t.Minutes.getD i default∧t.Minutes.getD i default≤(bn w i).Minutes.Hi
structure MadeV (w:Wear) (t:Lives):Prop where
 ok:WearOk w
 tr:TrueT w t
 looks:w.Looks.length≤6
 src:∀ l∈w.Looks,l.Source≤60
theorem zg8 {T:Type} [Inhabited T] {ok:T→Prop} {num:T→Int} {l:List T} (h:zfm ok num l) {x:T} (hx:ok x) (hn:∀ y∈l,num y<num x):zfm ok num (l++[x]):=by
 intro i hi
 simp only [List.length_append,List.length_cons,List.length_nil] at hi
 rw [zcn,zcn]
 by_cases e:i=l.length
 · rw [if_pos e]
   refine ⟨hx,fun h0=>?_⟩
   rw [if_neg (by omega)]
   exact hn _ (zcV (by omega))
 · rw [if_neg e]
   refine ⟨(h i (by omega)).1,fun h0=>?_⟩
   rw [if_neg (by omega)]
   exact (h i (by omega)).2 h0
theorem zik {T:Type} [Inhabited T] {ok:T→Prop} {num:T→Int}:zfm ok num ([]:List T):=fun i hi=>absurd hi (Nat.not_lt_zero _)
theorem zpQ {fuel:Nat} (hf:1000≤fuel) (r:gasolierref06_Raw) (q:List Int):Wp (zb0 fuel r q) (fun z=>MadeV z.1 z.2):=by
 unfold zb0
 refine zji 2 (by omega) (fun i s=>s.1.length=i∧s.2.length=i∧zfm BatchOk (·.Id) s.1∧(∀ j,j<i→(s.1.getD j default).Id=(j:Int)+1)∧∀ j,j<i→inR (s.1.getD j default).Life (s.2.getD j default)) ⟨rfl,rfl,zik,fun j hj=>absurd hj (Nat.not_lt_zero _),fun j hj=>absurd hj (Nat.not_lt_zero _)⟩ (fun i s K hi hI hK=>?_)
 obtain ⟨bs,ls⟩:=s
 obtain ⟨b1,b2,b3,b4,b5⟩:=hI
 simp only at b1 b2 b3 b4 b5 ⊢
 refine zcz (fun hb=>?_) (fun hb=>?_)
 · have hi2:i<2:=by
    simp only [Bool.or_eq_true,Bool.and_eq_true,decide_eq_true_eq] at hb
    omega
   refine zgx (fun _=>True) (fun K2 hK2=>?_) (fun s3 _=>?_)
   · exact zck (fun h=>zay (by omega) (hK2 _ trivial)) (fun h=>hK2 _ trivial)
   refine wp_bind (zdj (by omega)) (fun lo hlo=>zam (by omega) (wp_bind (zdj (by omega)) (fun d hd=>zam (by omega) ?_)))
   refine zcf (by simp [-List.getD_eq_getElem?_getD];omega) (wp_bind (zns (by omega)) (fun p _=>zam (by omega) (zam (by omega) (wp_bind (zdj (by omega)) (fun v hv=>zam (by omega) (zcf (by simp [-List.getD_eq_getElem?_getD];omega) (zam (by omega) (hK _ hi2 ?_))))))))
   refine ⟨by simp [-List.getD_eq_getElem?_getD,b1],by simp [-List.getD_eq_getElem?_getD,b2],zg8 b3 ⟨by simp only;omega,by simp only;omega⟩ (fun y hy=>?_),fun j hj=>?_,fun j hj=>?_⟩
   · obtain ⟨j,hj,e⟩:=zdK hy
     have:=b4 j (by omega)
     rw [e] at this
     simp only;omega
   · rw [zcn]
     by_cases e:j=bs.length
     · rw [if_pos e];simp only;omega
     · rw [if_neg e];exact b4 j (by omega)
   · rw [zcn,zcn]
     by_cases e:j=bs.length
     · rw [if_pos e,if_pos (by omega)];unfold inR;simp only;omega
     · rw [if_neg e,if_neg (by omega)];exact b5 j (by omega)
 have hi1:1≤i:=by
  simp only [Bool.or_eq_false_iff,decide_eq_false_iff_not] at hb
  omega
 refine zji 7 (by omega) (fun j s=>s.length=j∧zfm MantleOk (·.Source) s∧(∀ k,k<j→(s.getD k default).Source=(k:Int)+1)∧∀ k,k<j→∃ q,q<bs.length∧(bs.getD q default).Id=(s.getD k default).Batch) ⟨rfl,zik,fun j hj=>absurd hj (Nat.not_lt_zero _),fun j hj=>absurd hj (Nat.not_lt_zero _)⟩ (fun j ms K2 hj hI2 hK2=>?_)
 obtain ⟨m1,m2,m3,m4⟩:=hI2
 refine zcz (fun hb=>?_) (fun _=>?_)
 · simp only [Bool.and_eq_true,decide_eq_true_eq] at hb
   refine zay (by simp only;omega) (zam (by simp only;omega) (wp_bind (zdj (by omega)) (fun a ha=>zam (by omega) (wp_bind (zdj (by omega)) (fun b hb2=>zam (by omega) (wp_bind (zdj (by omega)) (fun c hc=>wp_bind (zdj (by omega)) (fun d hd=>?_))))))))
   refine zcf (by simp [-List.getD_eq_getElem?_getD];omega) (zam (by simp only;omega) (hK2 _ (by omega) ⟨by simp [-List.getD_eq_getElem?_getD,m1],zg8 m2 ⟨⟨by simp only;omega,by simp only;omega,by simp only;omega,by simp only;omega,.inl rfl⟩,by simp only;omega⟩ (fun y hy=>?_),fun k hk=>?_,fun k hk=>?_⟩))
   · obtain ⟨k,hk,e⟩:=zdK hy
     have:=m3 k (by omega)
     rw [e] at this
     simp only;omega
   · rw [zcn]
     by_cases e:k=ms.length
     · rw [if_pos e];simp only;omega
     · rw [if_neg e];exact m3 k (by omega)
   · rw [zcn]
     by_cases e:k=ms.length
     · rw [if_pos e]
       refine ⟨b.toNat,by omega,?_⟩
       have:=b4 b.toNat (by omega)
       simp only;omega
     · rw [if_neg e];exact m4 k (by omega)
 refine zji 14 (by omega) (fun j s=>s.1.length=j∧s.2.length=j∧zfm BurnOk (·.Source) s.1∧(∀ k,k<j→(s.1.getD k default).Source=(k:Int)+20)∧∀ k,k<j→(s.1.getD k default).Minutes.Lo≤s.2.getD k default∧s.2.getD k default≤(s.1.getD k default).Minutes.Hi) ⟨rfl,rfl,zik,fun j hj=>absurd hj (Nat.not_lt_zero _),fun j hj=>absurd hj (Nat.not_lt_zero _)⟩ (fun j3 s K3 hj3 hI3 hK3=>?_)
 obtain ⟨us,ts⟩:=s
 obtain ⟨u1,u2,u3,u4,u5⟩:=hI3
 simp only at u1 u2 u3 u4 u5 ⊢
 refine zcz (fun hb=>?_) (fun _=>?_)
 · simp only [Bool.and_eq_true,decide_eq_true_eq] at hb
   refine zay (by omega) (wp_bind (zdj (by omega)) (fun lo hlo=>zam (by omega) (wp_bind (zdj (by omega)) (fun a ha=>zam (by omega) (wp_bind (zdj (by omega)) (fun n hn=>wp_bind (zdj (by omega)) (fun d hd=>zam (by omega) (wp_bind (zdj (by omega)) (fun k hk=>?_)))))))))
   refine zcf (by simp [-List.getD_eq_getElem?_getD];omega) (zam (by omega) (wp_bind (zns (by omega)) (fun p _=>zam (by omega) (zam (by omega) (wp_bind (zdj (by omega)) (fun v hv=>zam (by omega) (zcf (by simp [-List.getD_eq_getElem?_getD];omega) (zam (by omega) (hK3 _ (by omega) ?_)))))))))
   refine ⟨by simp [-List.getD_eq_getElem?_getD,u1],by simp [-List.getD_eq_getElem?_getD,u2],zg8 u3 ⟨⟨by simp only;omega,by simp only;omega,by simp only;omega,by simp only;omega,.inl rfl⟩,by simp only;omega⟩ (fun y hy=>?_),fun j hj=>?_,fun j hj=>?_⟩
   · obtain ⟨k2,hk2,e⟩:=zdK hy
     have:=u4 k2 (by omega)
     rw [e] at this
     simp only;omega
   · rw [zcn]
     by_cases e:j=us.length
     · rw [if_pos e];simp only;omega
     · rw [if_neg e];exact u4 j (by omega)
   · rw [zcn,zcn]
     by_cases e:j=us.length
     · rw [if_pos e,if_pos (by omega)];simp only;omega
     · rw [if_neg e,if_neg (by omega)];exact u5 j (by omega)
 refine zji 6 (by omega) (fun j s=>s.length=j∧zfm zjJ (·.Source) s∧∀ k,k<j→(s.getD k default).Source=(k:Int)+50) ⟨rfl,zik,fun j hj=>absurd hj (Nat.not_lt_zero _)⟩ (fun j4 xs K4 hj4 hI4 hK4=>?_)
 obtain ⟨x1,x2,x3⟩:=hI4
 refine zcz (fun hb=>?_) (fun _=>zaC ?_)
 · simp only [Bool.and_eq_true,decide_eq_true_eq] at hb
   refine zay (by simp only;omega) (zam (by simp only;omega) (wp_bind (zdj (by omega)) (fun a ha=>zam (by omega) (wp_bind (zdj (by omega)) (fun n hn=>wp_bind (zdj (by omega)) (fun d hd=>wp_bind (zdj (by omega)) (fun k hk=>?_)))))))
   refine zcf (by simp [-List.getD_eq_getElem?_getD];omega) (zam (by simp only;omega) (hK4 _ (by omega) ⟨by simp [-List.getD_eq_getElem?_getD,x1],zg8 x2 ⟨by simp only;omega,by simp only;omega,by simp only;omega,by simp only;omega,.inl rfl⟩ (fun y hy=>?_),fun k hk=>?_⟩))
   · obtain ⟨k2,hk2,e⟩:=zdK hy
     have:=x3 k2 (by omega)
     rw [e] at this
     simp only;omega
   · rw [zcn]
     by_cases e:k=xs.length
     · rw [if_pos e];simp only;omega
     · rw [if_neg e];exact x3 k (by omega)
 · refine ⟨⟨by simp only;omega,by simp only;omega,by simp only;omega,by simp only;omega,b3,m2,u3,x2,fun k hk=>m4 k (by simp only at hk;omega)⟩,⟨by simp only;omega,fun k hk=>b5 k (by simp only at hk;omega),by simp only;omega,fun k hk=>u5 k (by simp only at hk;omega)⟩,by simp only;omega,fun l hl=>?_⟩
   obtain ⟨k,hk,e⟩:=zdK (l:=xs) hl
   have:=x3 k (by omega)
   rw [e] at this
   omega
end Go.Sp
end
/- Plain laws, mantle: looks that are right by lives and minutes. No program in sight. -/
section
set_option linter.all false
namespace Go.Sp
open Go.Av
set_option maxRecDepth 100000
def zhV (w:Wear) (l:List Look):Wear:=⟨w.Batches,w.Mantles,w.Burns,l⟩
theorem znZ (w:Wear) (l:List Look) (lamp night known:Int):fit (zhV w l) lamp night known=fit w lamp night known:=by
 have go:∀ n,fitN (zhV w l) lamp night known n=fitN w lamp night known n:=by
  intro n
  induction n with
  | zero=>rfl
  | succ n ih=>unfold fitN;rw [ih];rfl
 exact go _
theorem zpE (w:Wear) (l:List Look) (known:Int) (i:Nat):tell (zhV w l) known i=tell w known i:=by
 unfold tell
 rw [znZ]
 rfl
theorem zo1 (w:Wear) (l:List Look) (known m f t:Int) (i:Nat):zg6 (zhV w l) known m f t i=zg6 w known m f t i:=by
 unfold zg6
 rw [znZ,zpE]
 rfl
theorem zoC {w:Wear} {t:Lives} (h:TrueT w t) (l:List Look):TrueT (zhV w l) t:=⟨h.nl,h.lives,h.nm,h.mins⟩
def tAge (w:Wear) (known:Int) (t:Lives) (m f n:Int):Int:=zbb (zg6 w known m f n) (fun i=>t.Minutes.getD i default) w.Burns.length
theorem zpF {w:Wear} {t:Lives} (h:TrueT w t) (known m f n:Int):zhO w known m f n≤tAge w known t m f n:=zgz (fun i hi _=>(h.mins i hi).1)
theorem zlq {w:Wear} {t:Lives} (h:TrueT w t) (known m f n:Int):tAge w known t m f n≤zex w known m f n:=zgz (fun i hi _=>(h.mins i hi).2)
theorem tMin {w:Wear} (V:WearOk w) {t:Lives} (h:TrueT w t) {i:Nat} (hi:i<w.Burns.length):0≤t.Minutes.getD i default∧t.Minutes.getD i default≤1440:=by
 have h1:=h.mins i hi
 have h2:=(zlc V hi).min
 omega
theorem zne {w:Wear} (V:WearOk w) {t:Lives} (h:TrueT w t) {known m f n n':Int} (hn:n≤n'):tAge w known t m f n≤tAge w known t m f n':=by
 refine zgY (fun i hi=>(tMin V h hi).1) (fun i hi hp=>?_)
 simp only [zg6,Bool.and_eq_true,decide_eq_true_eq] at hp ⊢
 exact ⟨hp.1,hp.2.1,by omega⟩
theorem zmE {w:Wear} {t:Lives} {known m a b c:Int} (h1:a≤b) (h2:b≤c):tAge w known t m a c=tAge w known t m a b+tAge w known t m b c:=by
 refine zjn (fun i hi=>?_) (fun i hi h=>?_)
 · rw [Bool.eq_iff_iff]
   simp only [zg6,Bool.or_eq_true,Bool.and_eq_true,decide_eq_true_eq]
   constructor
   · rintro ⟨h3,h4,h5⟩
     rcases Int.lt_or_le b (bn w i).Night with h|h
     · exact .inr ⟨h3,h,h5⟩
     · exact .inl ⟨h3,h4,h⟩
   · rintro (⟨h3,h4,h5⟩|⟨h3,h4,h5⟩)
     · exact ⟨h3,h4,by omega⟩
     · exact ⟨h3,by omega,h5⟩
 · simp only [zg6,Bool.and_eq_true,decide_eq_true_eq] at h
   omega
def tBad (w:Wear) (known:Int) (t:Lives) (m:Nat) (night:Int):Bool:=decide (t.Lives.getD (bat w m).toNat default<tAge w known t (m:Int) (-1) night)
def zkq (w:Wear) (known:Int) (t:Lives) (lamp night:Int):Bool:=if fit w lamp night known<0 then false else tBad w known t (fit w lamp night known).toNat night
theorem znt {w:Wear} (V:WearOk w) {t:Lives} (h:TrueT w t) {known:Int} {m:Nat} (hm:m<w.Mantles.length) {S:List mantle_sight} (hS:∀ s∈S,s.bad=tBad w known t m s.night):OkBy w known m S (t.Lives.getD (bat w m).toNat default):=by
 have hb:=zlf V hm
 have hg:∀ s∈S,s.bad=false→tAge w known t m (-1) s.night≤t.Lives.getD (bat w m).toNat default:=fun s hs e=>by
  have:=hS s hs
  rw [e] at this
  have:=of_decide_eq_false this.symm
  omega
 have hbd:∀ s∈S,s.bad=true→t.Lives.getD (bat w m).toNat default<tAge w known t m (-1) s.night:=fun s hs e=>by
  have:=hS s hs
  rw [e] at this
  exact of_decide_eq_true this.symm
 refine ⟨znM V (q:=(bat w m).toNat) (by omega) (h.lives _ (by omega)),fun s hs e=>?_,fun s hs e=>?_,fun s hs u hu e e2=>?_⟩
 · exact Int.le_trans (zpF h known m (-1) s.night) (hg s hs e)
 · exact Int.lt_of_lt_of_le (hbd s hs e) (zlq h known m (-1) s.night)
 · have h1:=hg s hs e
   have h2:=hbd u hu e2
   have hlt:s.night<u.night:=by
    rcases Int.lt_or_le s.night u.night with h3|h3
    · exact h3
    · have:=zne V h (known:=known) (m:=(m:Int)) (f:=-1) h3;omega
   refine ⟨hlt,?_⟩
   by_cases h0 : -1≤s.night
   · have:=zmE (w:=w) (t:=t) (known:=known) (m:=(m:Int)) h0 (Int.le_of_lt hlt)
     have:=zlq h known m s.night u.night
     omega
   · have h3:=zlq h known m (-1) u.night
     have h4:=zdH V (known:=known) (m:=(m:Int)) (f:=-1) (f':=s.night) (Int.le_refl u.night) (by omega)
     have h5:0≤t.Lives.getD (bat w m).toNat default:=(znM V (q:=(bat w m).toNat) (by omega) (h.lives _ (by omega))).1
     omega
def zmB (w:Wear) (known:Int) (t:Lives) (L:List Look):Prop:=∀ l∈L,l.Bad=zkq w known t l.Lamp l.Night
theorem zkB {w:Wear} {known:Int} {t:Lives} {L:List Look} (h:zmB w known t L) {m:Nat}:∀ s∈sights w known L m,s.bad=tBad w known t m s.night:=fun s hs=>by
 obtain ⟨i,hi,h1,h2,h3⟩:=zei.1 hs
 have:=h _ (zcV hi)
 unfold lk at *
 rw [h3]
 simp only
 rw [this]
 unfold zkq
 rw [h1,if_neg (by omega),Int.toNat_natCast]
theorem zmI {w:Wear} (V:WearOk w) {t:Lives} (h:TrueT w t) {known:Int} {L:List Look} (hL:zmB w known t L):∀ b,b<w.Batches.length→zmC w known (sights w known L) b (t.Lives.getD b default):=fun b hb=>by
 refine ⟨h.lives b hb,fun i hi hbi=>?_⟩
 have:=znt V h hi (zkB hL (m:=i))
 rw [hbi,Int.toNat_natCast] at this
 exact this
theorem zky {w:Wear} (V:WearOk w) {t:Lives} (h:TrueT w t) {known:Int} {L:List Look} (hL:zmB w known t L):zc3 w known (sights w known L):=fun b hb=>⟨_,zmI V h hL b hb⟩
theorem zmF {P:Nat→Bool} {f:Nat→Int} {n:Nat} (h:P n=true):zbb P f n+f n=zbb P f (n+1):=by
 show _=zbb P f n+(if P n=true then f n else 0)
 rw [if_pos h]
theorem znf {P:Nat→Bool} {f:Nat→Int} {n:Nat} (h:P n=false):zbb P f n=zbb P f (n+1):=by
 show _=zbb P f n+(if P n=true then f n else 0)
 rw [if_neg (by rw [h];decide),Int.add_zero]
theorem zoZ {w:Wear} (V:WearOk w) {t:Lives} (h:TrueT w t) {fuel:Nat} (hf:1000≤fuel) (lamp night known:Int):zbO fuel w t ⟨lamp,night,known⟩=some (zkq w known t lamp night):=by
 have nm:=V.nm;have nu:=V.nu;have nb:=V.nb
 unfold zbO
 refine Wp.eq (zaP (at_eq (by omega) nm _ _ _) (zaP (zmD V (by omega) known) ?_))
 have hP:∀ M:Mantle,∀ n:Nat,n≤w.Burns.length→0≤zbb (fun i=>tell w known i && decide ((bn w i).Lamp=lamp) && zaD (bn w i).Night M.Night night) (fun i=>t.Minutes.getD i default) n∧zbb (fun i=>tell w known i && decide ((bn w i).Lamp=lamp) && zaD (bn w i).Night M.Night night) (fun i=>t.Minutes.getD i default) n≤86400:=fun M n hn=>by
  have:=zez (P:=fun i=>tell w known i && decide ((bn w i).Lamp=lamp) && zaD (bn w i).Night M.Night night) (f:=fun i=>t.Minutes.getD i default) (c:=1440) (by decide) (n:=n) (fun i hi=>tMin V h (by omega))
  omega
 generalize hM:atR w lamp night known=z
 obtain ⟨M,ok⟩:=z
 simp only
 refine zpB w.Burns.length (by omega) (fun i s=>s=zbb (fun i=>tell w known i && decide ((bn w i).Lamp=lamp) && zaD (bn w i).Night M.Night night) (fun i=>t.Minutes.getD i default) i) rfl (fun i s K hi hI hK=>?_)
 subst hI
 by_cases hin:i<w.Burns.length
 · have h60:=hP M i (by omega)
   have hmin:=tMin V h hin
   refine zef (by simp [-List.getD_eq_getElem?_getD];omega) (zay (by simp only;omega) (zay (by simp [-List.getD_eq_getElem?_getD];omega) ?_))
   simp only [Int.toNat_natCast]
   have e:((List.range w.Burns.length).map (tell w known)).getD i default=tell w known i:=by
    rw [List.getD_eq_getElem?_getD,List.getElem?_map,List.getElem?_range hin];rfl
   rw [e]
   refine zcz (fun hb=>zay (by rw [h.nm];omega) (zam (by omega) (zam (by omega) (hK _ hin ?_)))) (fun hb=>zam (by omega) (hK _ hin ?_))
   · exact zmF (P:=fun i=>tell w known i && decide ((bn w i).Lamp=lamp) && zaD (bn w i).Night M.Night night) (f:=fun i=>t.Minutes.getD i default) hb
   · exact znf (P:=fun i=>tell w known i && decide ((bn w i).Lamp=lamp) && zaD (bn w i).Night M.Night night) (f:=fun i=>t.Minutes.getD i default) hb
 have ei:i=w.Burns.length:=by omega
 subst ei
 refine zcO (by simp [-List.getD_eq_getElem?_getD]) ?_
 unfold atR at hM
 unfold zkq
 by_cases hfit:fit w lamp night known<0
 · rw [if_pos hfit] at hM ⊢
   cases hM
   refine znb (n:=w.Batches.length) (by omega) (fun j=>(ba w j).Id≠0) (fun j K2 hj _ hK2=>?_) (fun _ K2=>zcO (by simp [-List.getD_eq_getElem?_getD]) (zaC rfl))
   refine zef (by simp [-List.getD_eq_getElem?_getD];omega) (zay (by omega) ?_)
   refine zck (fun _=>zay (fun k=>(by cases k)) (zaC (by simp [-List.getD_eq_getElem?_getD]))) (fun hne=>zam (by omega) (hK2 (by simpa [-List.getD_eq_getElem?_getD,ba,zoi] using hne)))
 · rw [if_neg hfit] at hM ⊢
   cases hM
   obtain ⟨m,hm⟩:∃ m:Nat,fit w lamp night known=(m:Int):=⟨_,(Int.toNat_of_nonneg (by omega)).symm⟩
   have hfi:=zn1 hm
   rw [hm,Int.toNat_natCast]
   have hbt:=zlf V hfi.lt
   have hsum:zbb (fun i=>tell w known i && decide ((bn w i).Lamp=lamp) && zaD (bn w i).Night (mt w m).Night night) (fun i=>t.Minutes.getD i default) w.Burns.length=tAge w known t m (-1) night:=by
    refine zfw (fun i hi=>?_)
    rw [← zo2 V hfi hi]
    unfold znR
    rw [hfi.cand.1]
   rw [hsum]
   refine znb (n:=w.Batches.length) (by omega) (fun j=>(ba w j).Id≠(mt w m).Batch) (fun j K2 hj _ hK2=>?_) (fun hall K2=>?_)
   · refine zef (by simp [-List.getD_eq_getElem?_getD];omega) (zay (by omega) ?_)
     simp only [Int.toNat_natCast]
     refine zck (fun he=>zay (fun _=>by rw [h.nl];omega) (zaC ?_)) (fun hne=>zam (by omega) (hK2 hne))
     have ej:bat w m=(j:Int):=(zp2 V hfi.lt hj).2 he.symm
     have e5:tBad w known t m night=decide (t.Lives.getD j default<tAge w known t m (-1) night):=by
      unfold tBad
      rw [ej,Int.toNat_natCast]
     rw [e5]
     exact Bool.true_and _
   · obtain ⟨j,hj,e⟩:=V.has m hfi.lt
     exact absurd e (hall j hj)
def zeB (w:Wear) (known:Int) (t:Lives) (l:List Look):List Look:=l.map (fun l=>⟨l.Source,l.Lamp,l.Night,zkq w known t l.Lamp l.Night,l.Known,l.Until⟩)
def zhU (w:Wear) (known:Int) (t:Lives):Wear:=zhV w (zeB w known t w.Looks)
theorem zcS (w:Wear) (known:Int) (t:Lives) (l:List Look):(zeB w known t l).length=l.length:=by simp [-List.getD_eq_getElem?_getD,zeB]
theorem zho {w:Wear} {known:Int} {t:Lives} {l:List Look} {i:Nat} (hi:i<l.length):(zeB w known t l).getD i default=⟨(lk l i).Source,(lk l i).Lamp,(lk l i).Night,zkq w known t (lk l i).Lamp (lk l i).Night,(lk l i).Known,(lk l i).Until⟩:=by
 unfold zeB lk
 rw [List.getD_eq_getElem?_getD,List.getElem?_map,List.getElem?_eq_getElem hi,List.getD_eq_getElem?_getD,List.getElem?_eq_getElem hi];rfl
theorem znn {w:Wear} (V:WearOk w) (known:Int) (t:Lives):WearOk (zhU w known t):=by
 refine ⟨V.nb,V.nm,V.nu,by show (zeB w known t w.Looks).length≤60;rw [zcS];exact V.nl,V.ba,V.ma,V.bu,fun i hi=>?_,V.has⟩
 have hi':i<w.Looks.length:=by
  have:(zhU w known t).Looks.length=w.Looks.length:=zcS w known t w.Looks
  omega
 have h1:=V.lo i hi'
 show zjJ ((zeB w known t w.Looks).getD i default)∧(0<i→((zeB w known t w.Looks).getD (i - 1) default).Source<((zeB w known t w.Looks).getD i default).Source)
 rw [zho hi']
 refine ⟨h1.1,fun h0=>?_⟩
 rw [zho (by omega)]
 exact h1.2 h0
theorem zpn (w:Wear) (l:List Look) (known:Int) (t:Lives) (lamp night:Int):zkq (zhV w l) known t lamp night=zkq w known t lamp night:=by
 unfold zkq tBad
 rw [znZ]
 have:∀ m n:Int,tAge (zhV w l) known t m (-1) n=tAge w known t m (-1) n:=fun m n=>zfw (fun i _=>zo1 w l known m (-1) n i)
 rw [this]
 rfl
theorem zkF (w:Wear) (known:Int) (t:Lives):zmB (zhU w known t) known t (zhU w known t).Looks:=fun l hl=>by
 have hl':l∈zeB w known t w.Looks:=hl
 unfold zhU
 rw [zpn]
 unfold zeB at hl'
 rw [List.mem_map] at hl'
 obtain ⟨l0,_,rfl⟩:=hl'
 rfl
theorem zoO {w:Wear} (V:WearOk w) {t:Lives} (h:TrueT w t) {fuel:Nat} (hf:1000≤fuel) (known:Int):zbP fuel w t known=some (zhU w known t):=by
 have nm:=V.nm;have nu:=V.nu;have nb:=V.nb;have nl:=V.nl
 unfold zbP zbG
 refine Wp.eq (wp_bind (Q:=fun y=>y=w) (zcf (by simp [-List.getD_eq_getElem?_getD];omega) (zcf (by simp [-List.getD_eq_getElem?_getD];omega) (zcf (by simp [-List.getD_eq_getElem?_getD];omega) (zcf (by simp [-List.getD_eq_getElem?_getD];omega) (zaC (by simp [-List.getD_eq_getElem?_getD])))))) (fun y hy=>?_))
 subst hy
 refine zji y.Looks.length (by omega) (fun i s=>s=(zeB y known t y.Looks).take i++y.Looks.drop i) (by simp [-List.getD_eq_getElem?_getD]) (fun i s K hi hI hK=>?_)
 have hlen:s.length=y.Looks.length:=by rw [hI,List.length_append,List.length_take,List.length_drop,zcS];omega
 by_cases hin:i<y.Looks.length
 · refine zef (by simp only;rw [decide_eq_true_eq,hlen];omega) (zay (by simp only;omega) ?_)
   simp only [Int.toNat_natCast]
   have hg:s.getD i default=y.Looks.getD i default:=by
    rw [hI,zen,List.length_take,zcS,if_neg (by omega),getD_drop]
    congr 1;omega
   rw [hg]
   refine zaP (zoZ V h hf _ _ _) (zay (by omega) (zam (by omega) (hK _ hin ?_)))
   rw [zgW (by rw [zcS];exact hin),zho hin]
   refine zpa (by rw [List.length_set,hlen];simp only [List.length_append,List.length_take,List.length_drop,List.length_cons,List.length_nil,zcS];omega) (fun j hj=>?_)
   rw [List.length_set] at hj
   rw [zmo _ _ _ _ _ (by omega),List.append_assoc,zen,List.length_take,zcS]
   by_cases e1:j=i
   · rw [if_pos e1,if_neg (by omega),e1,zen]
     rw [if_pos (by simp only [List.length_cons,List.length_nil];omega)]
     rw [show i - min i y.Looks.length=0 by omega]
     rfl
   · rw [if_neg e1,hI,zen,List.length_take,zcS]
     by_cases e2:j<min i y.Looks.length
     · rw [if_pos e2,if_pos e2]
     · rw [if_neg e2,if_neg e2,zen,List.length_cons,List.length_nil,if_neg (by omega),getD_drop,getD_drop]
       congr 1;omega
 · have:i=y.Looks.length:=by omega
   subst this
   refine zcO (by simp only;rw [decide_eq_false_iff_not,hlen];omega) (zaC ?_)
   have e1:(zeB y known t y.Looks).take y.Looks.length=zeB y known t y.Looks:=List.take_of_length_le (by rw [zcS];exact Nat.le_refl _)
   simp only
   rw [hI,e1,List.drop_length,List.append_nil]
   rfl
end Go.Sp
end
/- Plain laws, mantle: from night to night; MantleNights. No program in sight. -/
section
set_option linter.all false
namespace Go.Sp
open Go.Av
set_option maxRecDepth 100000
theorem zkJ {w:Wear} {known m:Int} {S:List mantle_sight} {s s':mantle_sight} {x:Int} (h:OkBy w known m (S++[s]) x) (hb:s'.bad=s.bad) (h1:s'.bad=false→zhO w known m (-1) s'.night≤x) (h2:s'.bad=true→x<zex w known m (-1) s'.night)
 (h3:s'.bad=false→∀ t∈S,t.bad=true→s'.night<t.night∧0<zex w known m s'.night t.night) (h4:s'.bad=true→∀ t∈S,t.bad=false→t.night<s'.night∧0<zex w known m t.night s'.night):OkBy w known m (S++[s']) x:=by
 have hS:∀ y,y∈S→y∈S++[s]:=fun y hy=>List.mem_append.2 (.inl hy)
 have hm:∀ y,y∈S++[s']→y∈S∨y=s':=fun y hy=>by simpa [-List.getD_eq_getElem?_getD] using hy
 refine ⟨h.range,fun y hy e=>?_,fun y hy e=>?_,fun y hy z hz e e2=>?_⟩
 · rcases hm y hy with hy|rfl
   · exact h.good y (hS y hy) e
   · exact h1 e
 · rcases hm y hy with hy|rfl
   · exact h.bad y (hS y hy) e
   · exact h2 e
 · rcases hm y hy with hy1|hy1
   · rcases hm z hz with hz1|hz1
     · exact h.two y (hS y hy1) z (hS z hz1) e e2
     · rw [hz1] at e2 ⊢;exact h4 e2 y hy1 e
   · rcases hm z hz with hz1|hz1
     · rw [hy1] at e ⊢;exact h3 e z hz1 e2
     · rw [hy1] at e;rw [hz1,e] at e2;cases e2
theorem zoo {w:Wear} (V:WearOk w) {known:Int} {S:Nat→List mantle_sight} {m:Nat} {n n':Int} (hn:n≤n') (h:zeO w known S m n true):zeO w known S m n' true:=by
 obtain ⟨x,h1,h2⟩:=h
 refine ⟨x,h1,zkJ h2 rfl (fun e=>by cases e) (fun _=>?_) (fun e=>by cases e) (fun _ t ht e=>?_)⟩
 · have a:=h2.bad ⟨n,true⟩ (by simp [-List.getD_eq_getElem?_getD]) rfl
   have b:=zdH V (known:=known) (m:=(m:Int)) (f:=-1) (f':=-1) hn (Int.le_refl _)
   simp only at a ⊢
   omega
 · have a:=h2.two t (List.mem_append.2 (.inl ht)) ⟨n,true⟩ (by simp [-List.getD_eq_getElem?_getD]) e rfl
   have b:=zdH V (known:=known) (m:=(m:Int)) (f:=t.night) (f':=t.night) hn (Int.le_refl _)
   simp only at a ⊢
   exact ⟨by omega,by omega⟩
theorem zlV {w:Wear} (V:WearOk w) {known:Int} {S:Nat→List mantle_sight} {m:Nat} {n n':Int} (hn:n≤n') (h:zeO w known S m n' false):zeO w known S m n false:=by
 obtain ⟨x,h1,h2⟩:=h
 refine ⟨x,h1,zkJ h2 rfl (fun _=>?_) (fun e=>by cases e) (fun _ t ht e=>?_) (fun e=>by cases e)⟩
 · have a:=h2.good ⟨n',false⟩ (by simp [-List.getD_eq_getElem?_getD]) rfl
   have b:=zhN V (known:=known) (m:=(m:Int)) (f:=-1) hn
   simp only at a ⊢
   omega
 · have a:=h2.two ⟨n',false⟩ (by simp [-List.getD_eq_getElem?_getD]) t (List.mem_append.2 (.inl ht)) rfl e
   have b:=zdH V (known:=known) (m:=(m:Int)) (f:=n') (f':=n) (Int.le_refl t.night) hn
   simp only at a ⊢
   exact ⟨by omega,by omega⟩
theorem zhS {w:Wear} {known:Int} {S:Nat→List mantle_sight} {m:Nat} {night:Int}:(stateR w known S m night=0∧¬ zeO w known S m night true)∨(stateR w known S m night=1∧zeO w known S m night true∧¬ zeO w known S m night false)∨(stateR w known S m night=2∧zeO w known S m night true∧zeO w known S m night false):=by
 by_cases h1:zeO w known S m night true
 · by_cases h2:zeO w known S m night false
   · exact .inr (.inr ⟨zoF h1 h2,h1,h2⟩)
   · exact .inr (.inl ⟨zoG h1 h2,h1,h2⟩)
 · exact .inl ⟨zoH h1,h1⟩
theorem zn0 {w:Wear} {lamp n n' known:Int} (hn:n≤n') (h:0≤fit w lamp n known):0≤fit w lamp n' known:=by
 obtain ⟨m,hm⟩:∃ m:Nat,fit w lamp n known=(m:Int):=⟨_,(Int.toNat_of_nonneg h).symm⟩
 have hf:=zn1 hm
 rcases zij w lamp n' known with ⟨e,h2⟩|⟨j,e,_⟩
 · exact absurd ⟨hf.cand.1,by have:=hf.cand.2.1;omega,hf.cand.2.2⟩ (h2 m hf.lt)
 · omega
theorem zhP (r:gasolierref06_Raw) (q:List Int) (n:Arr3 Int):zaY 1000 r q n=some true:=by
 unfold zaY
 refine Wp.eq (zaP znh (wp_bind (zdj (by omega)) (fun l hl=>zam (by omega) (wp_bind (zdj (by omega)) (fun known hk=>wp_bind (zpQ (by omega) r q) (fun z hz=>?_))))))
 obtain ⟨w0,t⟩:=z
 simp only at hz ⊢
 refine zaP (zoO hz.ok hz.tr (by omega) known) (wp_bind (zdj (by omega)) (fun night hn=>?_))
 have V:=znn hz.ok known t
 have hT:TrueT (zhU w0 known t) t:=zoC hz.tr _
 have hR:=zkF w0 known t
 generalize zhU w0 known t=w at V hT hR ⊢
 have hs:zc3 w known (allS w known):=zky V hT hR
 refine zaP (zjr V _ _ _) (zam (by omega) (zaP (zjr V _ _ _) ?_))
 have h1:1≤1+l∧1+l≤999:=by omega
 have h2:zaW night∧zaW known:=⟨⟨by omega,by omega⟩,⟨by omega,by omega⟩⟩
 have h2':zaW (night+1)∧zaW known:=⟨⟨by omega,by omega⟩,⟨by omega,by omega⟩⟩
 by_cases hf:fit w (1+l) night known<0
 · have e:=zhu h1 h2 hf
   rw [ziS (by rw [e];decide),e]
   exact zef (by simp [-List.getD_eq_getElem?_getD]) (zaC (by simp [-List.getD_eq_getElem?_getD]))
 have e:=ziK h1 h2 hf
 have hf':¬ fit w (1+l) (night+1) known<0:=by
  have:=zn0 (w:=w) (lamp:=1+l) (known:=known) (n:=night) (n':=night+1) (by omega) (by omega)
  omega
 have e':=ziK h1 h2' hf'
 rw [zhz e,zhz e']
 refine zcO (by simp [-List.getD_eq_getElem?_getD]) ?_
 refine zcz (fun _=>zaC (by simp [-List.getD_eq_getElem?_getD])) (fun hb=>?_)
 have hsrc:(mt w (fit w (1+l) night known).toNat).Source=(mt w (fit w (1+l) (night+1) known).toNat).Source:=by simpa [-List.getD_eq_getElem?_getD] using hb
 have hl1:=zjv w (1+l) night known
 have hl2:=zjv w (1+l) (night+1) known
 have hsame:fit w (1+l) (night+1) known=fit w (1+l) night known:=by
  have:=zpG V (by omega) (by omega) hsrc
  omega
 refine zaP (znI V (by omega) _ _ _) (zam (by omega) (zaP (znI V (by omega) _ _ _) (zaP (zkN V (by omega) _ _ _) (zam (by omega) (zaP (zkN V (by omega) _ _ _) (zaC ?_))))))
 rw [zlZ e,zlZ e',zis e hs,zis e' hs,hsame]
 have a1:=zhN V (known:=known) (m:=fit w (1+l) night known) (f:=-1) (t:=night) (t':=night+1) (by omega)
 have a2:=zdH V (known:=known) (m:=fit w (1+l) night known) (f:=-1) (f':=-1) (t:=night) (t':=night+1) (by omega) (Int.le_refl _)
 have c1:=zhS (w:=w) (known:=known) (S:=allS w known) (m:=(fit w (1+l) night known).toNat) (night:=night)
 have c2:=zhS (w:=w) (known:=known) (S:=allS w known) (m:=(fit w (1+l) night known).toNat) (night:=night+1)
 have d1:=zoo V (known:=known) (S:=allS w known) (m:=(fit w (1+l) night known).toNat) (n:=night) (n':=night+1) (by omega)
 have d2:=zlV V (known:=known) (S:=allS w known) (m:=(fit w (1+l) night known).toNat) (n:=night) (n':=night+1) (by omega)
 rcases c1 with ⟨s1,k1⟩|⟨s1,k1,k2⟩|⟨s1,k1,k2⟩
 · rw [s1];simp [-List.getD_eq_getElem?_getD,a1,a2]
 · rcases c2 with ⟨s2,j1⟩|⟨s2,j1,j2⟩|⟨s2,j1,j2⟩
   · exact absurd (d1 k1) j1
   · rw [s1,s2];simp [-List.getD_eq_getElem?_getD,a1,a2]
   · exact absurd (d2 j2) k2
 · rcases c2 with ⟨s2,j1⟩|⟨s2,j1,j2⟩|⟨s2,j1,j2⟩
   · exact absurd (d1 k1) j1
   · rw [s1,s2];simp [-List.getD_eq_getElem?_getD,a1,a2]
   · rw [s1,s2];simp [-List.getD_eq_getElem?_getD,a1,a2]
end Go.Sp
end
