/- Texts of the framework, or of the plain law, one behind another. -/
import Derived.Test.YtakjeajlmlmkeaaGreatFr1
import Derived.Test.YtakjeajlmlmkeaaGreatFr5
import Derived.KernelRfl
/- Rules for plain laws: what a printed definition yields. No program in sight. -/
section
set_option linter.all false
namespace Go.Sp
open Go.Av
def Wp {R:Type} (x:Option R) (P:R→Prop):Prop:=∃ r,x=some r∧P r
theorem Wp.eq {R:Type} {x:Option R} {v:R} (h:Wp x (· = v)):x=some v:=by
 obtain ⟨r,h1,h2⟩:=h;rw [h1,h2]
theorem zar {R:Type} {r:R} {P:R→Prop} (h:P r):Wp (some r) P:=⟨r,rfl,h⟩
theorem zaA {R:Type} {c:Prop} [Decidable c] {x:Option R} {P:R→Prop} (h:c) (k:Wp x P):Wp (must c x) P:=by
 unfold must;rw [if_pos h];exact k
theorem wp_bind {S R:Type} {x:Option S} {k:S→Option R} {P:R→Prop} {Q:S→Prop} (h:Wp x Q) (hk:∀ s,Q s→Wp (k s) P):Wp (zas x k) P:=by
 obtain ⟨r,h1,h2⟩:=h;rw [h1];exact hk r h2
theorem zat {S R:Type} {x:Option S} {k:S→Option R} {P:R→Prop} {v:S} (h:x=some v) (hk:Wp (k v) P):Wp (zas x k) P:=by
 rw [h];exact hk
theorem zbQ {R:Type} {b:Bool} {x y:Option R} {P:R→Prop} (h1:b=true→Wp x P) (h2:b=false→Wp y P):Wp (bif b then x else y) P:=by
 cases b
 · exact h2 rfl
 · exact h1 rfl
theorem wp_if {R:Type} {p:Prop} {b:Bool} {x y:Option R} {P:R→Prop} (hb:b=true↔p) (h1:p→Wp x P) (h2:¬ p→Wp y P):Wp (bif b then x else y) P:=
 zbQ (fun h=>h1 (hb.1 h)) (fun h=>h2 (fun hp=>by rw [hb.2 hp] at h;cases h))
theorem zbZ {R:Type} {p:Prop} [Decidable p] {x y:Option R} {P:R→Prop} (h1:p→Wp x P) (h2:¬ p→Wp y P):Wp (bif (decide p) then x else y) P:=
 wp_if (decide_eq_true_iff) h1 h2
theorem zeW {R:Type} {p:Prop} [Decidable p] {x y:Option R} {P:R→Prop} (h1:¬ p→Wp x P) (h2:p→Wp y P):Wp (bif (!decide p) then x else y) P:=
 zbQ (fun h=>h1 (by simpa using h)) (fun h=>h2 (by simpa using h))
theorem zbP {R:Type} {b:Bool} {x y:Option R} {P:R→Prop} (h:b=true) (h1:Wp x P):Wp (bif b then x else y) P:=by rw [h];exact h1
theorem zbs {R:Type} {b:Bool} {x y:Option R} {P:R→Prop} (h:b=false) (h1:Wp y P):Wp (bif b then x else y) P:=by rw [h];exact h1
theorem zd6 {S R:Type} {f:(S→Option R)→Option R} {k:S→Option R} {P:R→Prop} (G:S→Prop) (hf:∀ K:S→Option R,(∀ s,G s→Wp (K s) P)→Wp (f K) P) (hk:∀ s,G s→Wp (k s) P):Wp (zgH f k) P:=hf k hk
theorem zeF {S R:Type} {body:Nat→S→(S→Option R)→Option R} {ex:S→Option R} {n:Nat} {s0:S} {P:R→Prop} (Inv:Nat→S→Prop) (h0:Inv 0 s0)
 (hb:∀ (i:Nat) s (K:S→Option R),i<n→Inv i s→(∀ s',Inv (i+1) s'→Wp (K s') P)→Wp (body i s K) P) (he:∀ s,Inv n s→Wp (ex s) P):Wp (zax body ex n 0 s0) P:=by
 have go:∀ (m i:Nat),i+m=n→∀ s,Inv i s→Wp (zax body ex m i s) P:=by
  intro m
  induction m with
  | zero=>intro i hi s hs;have e:i=n:=(by omega);subst e;exact he s hs
  | succ m ih=>intro i hi s hs;exact hb i s _ (by omega) hs (fun s' h'=>ih (i+1) (by omega) s' h')
 exact go n 0 (by omega) s0 h0
theorem wp_loop {S R:Type} {body:S→(S→Option R)→Option R} {fuel:Nat} {s0:S} {P:R→Prop} (Inv:S→Prop) (μ:S→Nat) (hf:μ s0<fuel) (h0:Inv s0)
 (hb:∀ s (K:S→Option R),Inv s→(∀ s',Inv s'→μ s'<μ s→Wp (K s') P)→Wp (body s K) P):Wp (loopGo body fuel s0) P:=by
 have go:∀ (f:Nat) s,Inv s→μ s<f→Wp (loopGo body f s) P:=by
  intro f
  induction f with
  | zero=>intro s _ h;omega
  | succ f ih=>intro s hs hm;exact hb s _ hs (fun s' h' hl=>ih s' h' (by omega))
 exact go fuel s0 h0 hf
theorem zkX {S R:Type} {body:(Int×S)→((Int×S)→Option R)→Option R} {fuel:Nat} {s0:S} {P:R→Prop} (n:Nat) (hf:n<fuel) (Inv:Nat→S→Prop) (h0:Inv 0 s0)
 (hb:∀ (i:Nat) s (K:(Int×S)→Option R),i≤n→Inv i s→(∀ s',i<n→Inv (i+1) s'→Wp (K ((i:Int)+1,s')) P)→Wp (body ((i:Int),s) K) P):Wp (loopGo body fuel (0,s0)) P:=by
 have go:∀ (f i:Nat) s,i≤n→n - i<f→Inv i s→Wp (loopGo body f ((i:Int),s)) P:=by
  intro f
  induction f with
  | zero=>intro i s _ h;omega
  | succ f ih=>intro i s hi hm hs;exact hb i s _ hi hs (fun s' hl h'=>ih (i+1) s' (by omega) (by omega) h')
 exact go fuel 0 s0 (by omega) (by omega) h0
theorem zp5 {R:Type} {body:Int→(Int→Option R)→Option R} {fuel:Nat} {P:R→Prop} (n:Nat) (hf:n<fuel) (Inv:Nat→Prop) (h0:Inv 0)
 (hb:∀ (i:Nat) (K:Int→Option R),i≤n→Inv i→(i<n→Inv (i+1)→Wp (K ((i:Int)+1)) P)→Wp (body (i:Int) K) P):Wp (loopGo body fuel 0) P:=by
 have go:∀ (f i:Nat),i≤n→n - i<f→Inv i→Wp (loopGo body f (i:Int)) P:=by
  intro f
  induction f with
  | zero=>intro i _ h;omega
  | succ f ih=>intro i hi hm hs;exact hb i _ hi hs (fun hl h'=>ih (i+1) (by omega) (by omega) h')
 exact go fuel 0 (by omega) (by omega) h0
end Go.Sp
end
/- More rules for plain laws. No program in sight. -/
section
set_option linter.all false
namespace Go.Sp
open Go.Av
theorem zaw {R:Type} {n:Int} {x:Option R} {P:R→Prop} (h : -9223372036854775808≤n∧n≤9223372036854775807) (k:Wp x P):Wp (must (inI n) x) P:=zaA h k
theorem zgq {R:Type} {n b:Nat} {x:Option R} {P:R→Prop} (h:n * b≤140737488355328∧n≤9223372036854775807) (k:Wp x P):Wp (must (room n b) x) P:=zaA h k
theorem zjw {S R:Type} [Inhabited S] {W:Bool} {x:Option S} {k:S→Option R} {P:R→Prop} {Q:S→Prop} (h:W=true→Wp x Q) (hk:∀ s,(W=true→Q s)→Wp (k s) P):Wp (zas (bif W then x else some default) k) P:=by
 cases W
 · exact hk _ (fun h=>by cases h)
 · exact wp_bind (h rfl) (fun s hs=>hk s (fun _=>hs))
end Go.Sp
end
/- Rules for plain laws, more of them. No program in sight. -/
section
set_option linter.all false
namespace Go.Sp
open Go.Av
theorem zkW {R:Type} {body:Nat→Unit→(Unit→Option R)→Option R} {ex:Unit→Option R} {n:Nat} {P:R→Prop} (good:Nat→Prop)
 (hb:∀ (i:Nat) (K:Option R),i<n→(∀ j,j<i→good j)→(good i→Wp K P)→Wp (body i () (fun _=>K)) P) (he:(∀ j,j<n→good j)→Wp (ex ()) P):Wp (zax body ex n 0 ()) P:=by
 refine zeF (fun i _=>∀ j,j<i→good j) (fun j hj=>by omega) (fun i s K hi hI hK=>?_) (fun s hs=>he hs)
 have e:K=fun _=>K ():=funext fun u=>rfl
 rw [e]
 exact hb i (K ()) hi hI (fun g=>hK () (fun j hj=>by
  by_cases e:j=i
  · rw [e];exact g
  · exact hI j (by omega)))
theorem zfh {R:Type} {c:Prop} [Decidable c] (h:c) (x:Option R):must c x=x:=if_pos h
theorem zpB {T:Type} (l:List T) (i j:Nat) (x d:T) (hi:i<l.length):(l.set i x).getD j d=if j=i then x else l.getD j d:=by
 simp only [List.getD_eq_getElem?_getD]
 by_cases e:j=i
 · subst e;rw [List.getElem?_set_self hi,if_pos rfl];rfl
 · rw [List.getElem?_set_ne (fun h=>e h.symm),if_neg e]
theorem zow {T:Type} (l:List T) (x d:T) (i:Nat):(l++[x]).getD i d=if i=l.length then x else l.getD i d:=by
 simp only [List.getD_eq_getElem?_getD]
 rcases Nat.lt_trichotomy i l.length with h|h|h
 · rw [List.getElem?_append_left h,if_neg (by omega)]
 · subst h;simp
 · rw [if_neg (by omega),List.getElem?_eq_none (by simp;omega),List.getElem?_eq_none (by omega)]
theorem zcO {T:Type} [Inhabited T] {l:List T} {i:Nat} (h:i<l.length):l.getD i default∈l:=by
 rw [List.getD_eq_getElem?_getD,List.getElem?_eq_getElem h];exact List.getElem_mem h
theorem zix {T:Type} [Inhabited T] {l:List T} {x:T} (h:x∈l):∃ i,i<l.length∧l.getD i default=x:=by
 obtain ⟨i,hi,rfl⟩:=List.getElem_of_mem h
 exact ⟨i,hi,by rw [List.getD_eq_getElem?_getD,List.getElem?_eq_getElem hi];rfl⟩
theorem getD_drop {T:Type} (l:List T) (n i:Nat) (d:T):(l.drop n).getD i d=l.getD (n+i) d:=by
 simp only [List.getD_eq_getElem?_getD,List.getElem?_drop]
theorem znF {A:Type} {body:Nat→Unit→(Unit→Option (List A))→Option (List A)} {n:Nat} (W:Nat→Bool) (x:Nat→A)
 (hb:∀ (i:Nat) (r:Option (List A)),i<n→body i () (fun _=>r)=zjW (W i) (x i) r):zax body (fun _=>some []) n 0 ()=some (((List.range' 0 n).filter W).map x):=by
 have go:∀ m i,i+m=n→zax body (fun _=>some []) m i ()=some (((List.range' i m).filter W).map x):=by
  intro m
  induction m with
  | zero=>intro i _;rfl
  | succ m ih=>
   intro i hi
   have e:zax body (fun _=>some []) (m+1) i ()=body i () (fun u=>zax body (fun _=>some []) m (i+1) u):=rfl
   rw [e]
   have e2:(fun u=>zax body (fun _=>some ([]:List A)) m (i+1) u)=fun _=>some (((List.range' (i+1) m).filter W).map x):=by
    funext u;exact ih (i+1) (by omega)
   rw [e2,hb i _ (by omega),List.range'_succ,List.filter_cons]
   cases W i <;> rfl
 exact go n 0 (by omega)
end Go.Sp
end
/- Binary search, and insertion into a sorted list. No program in sight. -/
section
set_option linter.all false
namespace Go.Sp
open Go.Av
theorem znL {T:Type} [Inhabited T] (f:T→Int) {l:List T} (h:∀ i,0<i→i<l.length→f (l.getD (i - 1) default)<f (l.getD i default)):l.Pairwise (fun a b=>f a<f b):=by
 rw [List.pairwise_iff_getElem]
 intro i j hi hj hij
 have step:∀ k,i+1+k<l.length→f l[i]<f (l.getD (i+1+k) default):=by
  intro k
  induction k with
  | zero=>
   intro hk
   have:=h (i+1) (by omega) hk
   have e:l.getD (i+1 - 1) default=l[i]:=by simp [List.getElem?_eq_getElem hi]
   rw [e] at this;exact this
  | succ k ih=>
   intro hk
   have h1:=ih (by omega)
   have h2:=h (i+1+(k+1)) (by omega) hk
   have e:i+1+(k+1) - 1=i+1+k:=by omega
   rw [e] at h2;omega
 have:=step (j - i - 1) (by omega)
 have e:i+1+(j - i - 1)=j:=by omega
 rw [e] at this
 simpa [List.getElem?_eq_getElem hj] using this
theorem zkZ {T:Type} [Inhabited T] {f:T→Int} {l:List T} (hs:l.Pairwise (fun a b=>f a<f b)) {i j:Nat} (hij:i<j) (hj:j<l.length):f (l.getD i default)<f (l.getD j default):=by
 have:=List.pairwise_iff_getElem.1 hs i j (by omega) hj hij
 simpa [List.getElem?_eq_getElem hj,List.getElem?_eq_getElem (show i<l.length by omega)] using this
end Go.Sp
end
/- slices.IndexFunc and slices.DeleteFunc, as they are printed. No program in sight. -/
section
set_option linter.all false
namespace Go.Sp
open Go.Av
set_option maxRecDepth 100000
theorem zf0 {T:Type} [Inhabited T] {p:T→Option Bool} {q:T→Bool} (hp:∀ x,p x=some (q x)) (l:List T) :
 (zax (fun i1 (s1:Unit) k1=>zas (p (l.getD i1 default)) fun y3=>(bif y3 then some (i1:Int) else k1 ())) (fun (s1:Unit)=>some (-1)) l.length 0 ():Option Int)=some (match l.findIdx? q with|some i=>(i:Int)|none=>-1):=by
 refine (zkW (P:=fun r=>r=(match l.findIdx? q with|some i=>(i:Int)|none=>-1)) (fun i=>q (l.getD i default)=false) (fun i K hi hb hK=>?_) (fun h1=>?_)).eq
 · rw [hp]
   refine zbQ (fun h=>zar ?_) (fun h=>hK h)
   have:l.findIdx? q=some i:=by
    rw [List.findIdx?_eq_some_iff_getElem]
    refine ⟨hi,?_,fun j hj=>?_⟩
    · rw [List.getD_eq_getElem?_getD,List.getElem?_eq_getElem hi] at h;exact h
    · have:=hb j hj
      rw [List.getD_eq_getElem?_getD,List.getElem?_eq_getElem (by omega)] at this
      simpa using this
   rw [this]
 · refine zar ?_
   have:l.findIdx? q=none:=by
    rw [List.findIdx?_eq_none_iff]
    intro x hx
    obtain ⟨i,hi,rfl⟩:=zix hx
    exact h1 i hi
   rw [this]
end Go.Sp
end
/- Plain laws, mantle: valid batches, mantles, burns, looks and wears, checked by both. No program in sight. -/
section
set_option linter.all false
namespace Go.Sp
open Go.Av
set_option maxRecDepth 100000
structure BatchOk (b:Batch):Prop where
 id:1≤b.Id∧b.Id≤99
 life:0≤b.Life.Lo∧b.Life.Lo≤b.Life.Hi∧b.Life.Hi≤1000000
structure ToldOk (s l n k u:Int):Prop where
 src:1≤s∧s≤99999
 lamp:1≤l∧l≤999
 night:0≤n∧n≤100000
 known:0≤k∧k≤100000
 til:u=0∨(k<u∧u≤100000)
structure MantleOk (m:Mantle):Prop where
 told:ToldOk m.Source m.Lamp m.Night m.Known m.Until
 batch:1≤m.Batch∧m.Batch≤99
structure BurnOk (b:Burn):Prop where
 told:ToldOk b.Source b.Lamp b.Night b.Known b.Until
 min:0≤b.Minutes.Lo∧b.Minutes.Lo≤b.Minutes.Hi∧b.Minutes.Hi≤1440
def zju (l:Look):Prop:=ToldOk l.Source l.Lamp l.Night l.Known l.Until
theorem mwithin {a b c:Int}:zaH a b c=(decide (b≤a) && decide (a≤c)):=rfl
theorem bif0 (b:Bool) {c:Int} (hc:c≠0):((bif b then c else 0)=0)↔b=false:=by cases b <;> simp [-List.getD_eq_getElem?_getD,hc]
theorem zjs (b:Bool) (c:Int):(bif b then c else 0)=0∨(bif b then c else 0)=c:=by cases b <;> simp [-List.getD_eq_getElem?_getD]
theorem zgn {n k u:Int}:zaR n k u=true↔(0≤n∧n≤100000)∧(0≤k∧k≤100000)∧(u=0∨(k<u∧u≤100000)):=by
 simp only [zaR,zaI,mwithin,Bool.and_eq_true,Bool.or_eq_true,decide_eq_true_eq]
 omega
theorem zfj {b:Batch}:zaX b=0↔BatchOk b:=by
 unfold zaX
 rw [bif0 _ (by decide)]
 simp only [zbj,mwithin,Bool.or_eq_false_iff,Bool.not_eq_false',Bool.and_eq_true,decide_eq_true_eq]
 exact ⟨fun h=>⟨h.1,by omega⟩,fun h=>⟨h.id,by have:=h.life;omega⟩⟩
theorem zdY {m:Mantle}:zaN m=0↔MantleOk m:=by
 unfold zaN
 rw [bif0 _ (by decide)]
 simp only [zaP,zaG,mwithin,Bool.or_eq_false_iff,Bool.not_eq_false',Bool.and_eq_true,decide_eq_true_eq,zgn]
 exact ⟨fun h=>⟨⟨h.1.1.1,h.1.1.2,h.2.1,h.2.2.1,h.2.2.2⟩,h.1.2⟩,fun h=>⟨⟨⟨h.told.src,h.told.lamp⟩,h.batch⟩,h.told.night,h.told.known,h.told.til⟩⟩
theorem ze3 {m:Burn}:zaV m=0↔BurnOk m:=by
 unfold zaV
 rw [bif0 _ (by decide)]
 simp only [zaP,zaG,zbj,mwithin,Bool.or_eq_false_iff,Bool.not_eq_false',Bool.and_eq_true,decide_eq_true_eq,zgn]
 exact ⟨fun h=>⟨⟨h.1.1.1,h.1.1.2,h.2.1,h.2.2.1,h.2.2.2⟩,by have:=h.1.2;omega⟩,fun h=>⟨⟨⟨h.told.src,h.told.lamp⟩,by have:=h.min;omega⟩,h.told.night,h.told.known,h.told.til⟩⟩
theorem ze2 {m:Look}:zaO m=0↔zju m:=by
 unfold zaO
 rw [bif0 _ (by decide)]
 simp only [zaP,zaG,mwithin,Bool.or_eq_false_iff,Bool.not_eq_false',Bool.and_eq_true,decide_eq_true_eq,zgn]
 exact ⟨fun h=>⟨h.1.1,h.1.2,h.2.1,h.2.2.1,h.2.2.2⟩,fun h=>⟨⟨h.src,h.lamp⟩,h.night,h.known,h.til⟩⟩
theorem zi3 (s l n k u:Int):∃ b,za6 ⟨s,l,n,k,u⟩=some b∧(b=true↔ToldOk s l n k u):=by
 unfold za6
 rw [zfh (fun h=>by
  simp only [zav,zan,Bool.and_eq_true,decide_eq_true_eq] at h
  show inI (k+1)
  have:=h.1.2
  unfold inI;omega)]
 refine ⟨_,rfl,?_⟩
 simp only [zav,zan,Bool.and_eq_true,Bool.or_eq_true,decide_eq_true_eq]
 exact ⟨fun h=>⟨h.1.1.1.1,h.1.1.1.2,h.1.1.2,h.1.2,by omega⟩,fun h=>⟨⟨⟨⟨h.src,h.lamp⟩,h.night⟩,h.known⟩,by have:=h.til;have:=h.known;omega⟩⟩
theorem zlV (b:Batch):zaC b=zaX b:=by
 have h:zaC b=0↔BatchOk b:=by
  unfold zaC
  rw [bif0 _ (by decide)]
  simp only [zan,Bool.or_eq_false_iff,Bool.not_eq_false',Bool.and_eq_true,decide_eq_true_eq,decide_eq_false_iff_not]
  exact ⟨fun h=>⟨h.1.1,by omega⟩,fun h=>⟨⟨h.id,by have:=h.life;omega⟩,by have:=h.life;omega⟩⟩
 rw [← zfj] at h
 have h1:=zjs (((!(zan b.Id 1 99)) || (!(zan b.Life.Lo 0 b.Life.Hi))) || (decide (1000000<b.Life.Hi))) 60
 have h2:=zjs ((!(zaH b.Id 1 99)) || (!(zbj b.Life 1000000))) 60
 change zaC b=0∨zaC b=60 at h1
 change zaX b=0∨zaX b=60 at h2
 omega
theorem zk6 (m:Mantle):za8 m=some (zaN m):=by
 unfold za8
 obtain ⟨b,e,hb⟩:=zi3 m.Source m.Lamp m.Night m.Known m.Until
 rw [e]
 have h2:=zjs ((((!(zaP m.Source)) || (!(zaG m.Lamp))) || (!(zaH m.Batch 1 99))) || (!(zaR m.Night m.Known m.Until))) 61
 change zaN m=0∨zaN m=61 at h2
 refine (zbQ (P:=(· = zaN m)) (fun h=>zar ?_) (fun h=>zar ?_)).eq
 · have:¬ MantleOk m:=fun V=>by
    have h3:=hb.2 V.told
    have:=V.batch
    simp [-List.getD_eq_getElem?_getD,h3,zan] at h;omega
   rw [← zdY] at this;omega
 · have:MantleOk m:=by
    simp only [Bool.or_eq_false_iff,Bool.not_eq_false',zan,Bool.and_eq_true,decide_eq_true_eq] at h
    exact ⟨hb.1 h.1,h.2⟩
   exact (zdY.2 this).symm
theorem zni (m:Burn):zbn m=some (zaV m):=by
 unfold zbn
 obtain ⟨b,e,hb⟩:=zi3 m.Source m.Lamp m.Night m.Known m.Until
 rw [e]
 have h2:=zjs ((((!(zaP m.Source)) || (!(zaG m.Lamp))) || (!(zbj m.Minutes 1440))) || (!(zaR m.Night m.Known m.Until))) 62
 change zaV m=0∨zaV m=62 at h2
 refine (zbQ (P:=(· = zaV m)) (fun h=>zar ?_) (fun h=>zar ?_)).eq
 · have:¬ BurnOk m:=fun V=>by
    have h3:=hb.2 V.told
    have:=V.min
    simp [-List.getD_eq_getElem?_getD,h3,zan] at h;omega
   rw [← ze3] at this;omega
 · have:BurnOk m:=by
    simp only [Bool.or_eq_false_iff,Bool.not_eq_false',zan,Bool.and_eq_true,decide_eq_true_eq,decide_eq_false_iff_not] at h
    exact ⟨hb.1 h.1.1,by omega⟩
   exact (ze3.2 this).symm
theorem znh (m:Look):zbm m=some (zaO m):=by
 unfold zbm
 obtain ⟨b,e,hb⟩:=zi3 m.Source m.Lamp m.Night m.Known m.Until
 rw [e]
 have h2:=zjs (((!(zaP m.Source)) || (!(zaG m.Lamp))) || (!(zaR m.Night m.Known m.Until))) 63
 change zaO m=0∨zaO m=63 at h2
 refine (zbQ (P:=(· = zaO m)) (fun h=>zar ?_) (fun h=>zar ?_)).eq
 · have:¬ zju m:=fun V=>by simp [-List.getD_eq_getElem?_getD,hb.2 V] at h
   rw [← ze2] at this;omega
 · have:zju m:=hb.1 (by simpa [-List.getD_eq_getElem?_getD] using h)
   exact (ze2.2 this).symm
def zis {T:Type} [Inhabited T] (ok:T→Prop) (num:T→Int) (l:List T):Prop:=∀ i,i<l.length→ok (l.getD i default)∧(0<i→num (l.getD (i - 1) default)<num (l.getD i default))
theorem zgE {T:Type} [Inhabited T] {chk num:T→Int} {ok:T→Prop} (hok:∀ x,chk x=0↔ok x) {l:List T} {p1:Int} (hl:l.length≤9223372036854775807) :
 Wp (zax (fun i1 (s1:Unit) k1=>zas ((fun x0=>some (chk x0)) (l.getD i1 default)) fun y3=>must ((((!(!decide (y3=0))) && (decide (0<(i1:Int))))=true→(inI ((i1:Int) - 1)))) <| must ((((!(!decide (y3=0))) && (decide (0<(i1:Int))))=true→(0≤(((i1:Int) - 1):Int)∧(((i1:Int) - 1):Int)<((l.length:Nat):Int)))) <| zas ((bif ((!(!decide (y3=0))) && (decide (0<(i1:Int)))) then (fun x0=>some (num x0)) (l.getD (((i1:Int) - 1)).toNat default) else some default)) fun y7=>zas ((bif ((!(!decide (y3=0))) && (decide (0<(i1:Int)))) then (fun x0=>some (num x0)) (l.getD i1 default) else some default)) fun y9=>(bif ((!decide (y3=0)) || ((decide (0<(i1:Int))) && (decide (y9≤y7)))) then some false else k1 ())) (fun (s1:Unit)=>some (decide (((l.length:Nat):Int)≤p1))) l.length 0 ():Option Bool)
  (fun b=>b=true↔zis ok num l∧(l.length:Int)≤p1):=by
 refine zkW (fun i=>ok (l.getD i default)∧(0<i→num (l.getD (i - 1) default)<num (l.getD i default))) (fun i K hi _ hK=>?_) (fun h1=>zar ?_)
 · refine zat rfl ?_
   refine zaA (fun _=>by unfold inI;omega) ?_
   refine zaA (fun h=>by simp [-List.getD_eq_getElem?_getD] at h;omega) ?_
   have e:(((i:Int) - 1)).toNat=i - 1:=by omega
   rw [e]
   refine zjw (Q:=fun y=>y=num (l.getD (i - 1) default)) (fun _=>zar rfl) (fun y7 h7=>?_)
   refine zjw (Q:=fun y=>y=num (l.getD i default)) (fun _=>zar rfl) (fun y9 h9=>?_)
   by_cases hc:chk (l.getD i default)=0
   · by_cases h0:0<i
     · have hW:((!(!decide (chk (l.getD i default)=0))) && (decide (0<(i:Int))))=true:=by simp [-List.getD_eq_getElem?_getD,hc,h0]
       rw [h7 hW,h9 hW]
       refine zbQ (fun hb=>zar ?_) (fun hb=>hK ⟨(hok _).1 hc,fun _=>?_⟩)
       · simp only [hc,decide_true,Bool.not_true,Bool.false_or,Bool.and_eq_true,decide_eq_true_eq] at hb
         refine ⟨fun h=>(by cases h),fun h=>?_⟩
         have:=(h.1 i hi).2 h0;omega
       · simp only [hc,decide_true,Bool.not_true,Bool.false_or,Bool.and_eq_false_iff,decide_eq_false_iff_not] at hb
         omega
     · refine zbs (by simp [-List.getD_eq_getElem?_getD,hc];omega) (hK ⟨(hok _).1 hc,fun h=>absurd h h0⟩)
   · refine zbP (by simp [-List.getD_eq_getElem?_getD,hc]) (zar ⟨fun h=>(by cases h),fun h=>absurd ((hok _).2 (h.1 i hi).1) hc⟩)
 · simp only [decide_eq_true_eq]
   exact ⟨fun h=>⟨h1,h⟩,fun h=>h.2⟩
structure WearOk (w:Wear):Prop where
 nb:w.Batches.length≤8
 nm:w.Mantles.length≤60
 nu:w.Burns.length≤60
 nl:w.Looks.length≤60
 ba:zis BatchOk (·.Id) w.Batches
 ma:zis MantleOk (·.Source) w.Mantles
 bu:zis BurnOk (·.Source) w.Burns
 lo:zis zju (·.Source) w.Looks
 has:∀ i,i<w.Mantles.length→∃ j,j<w.Batches.length∧(w.Batches.getD j default).Id=(w.Mantles.getD i default).Batch
structure Fits (w:Wear):Prop where
 b:w.Batches.length≤4611686018427387904
 m:w.Mantles.length≤4611686018427387904
 u:w.Burns.length≤4611686018427387904
 l:w.Looks.length≤4611686018427387904
theorem zqm {w:Wear} {p q r s:Prop} (h:(w.Batches.length * 24≤140737488351232∧p)∧(w.Mantles.length * 48≤140737488351232∧q)∧(w.Burns.length * 56≤140737488351232∧r)∧(w.Looks.length * 48≤140737488351232∧s)):Fits w:=⟨by have:=h.1.1;omega,by have:=h.2.1.1;omega,by have:=h.2.2.1.1;omega,by have:=h.2.2.2.1;omega⟩
theorem WearOk.fits {w:Wear} (h:WearOk w):Fits w:=⟨by have:=h.nb;omega,by have:=h.nm;omega,by have:=h.nu;omega,by have:=h.nl;omega⟩
def zdt (w:Wear) (id:Int):Int:=match w.Batches.findIdx? (fun b=>decide (b.Id=id)) with
 | some i=>(i:Int)
 | none=>-1
theorem zh2 (w:Wear) (id:Int):zb0 w id=some (zdt w id):=by
 unfold zb0 zb9
 rw [zf0 (p:=fun x0=>some (zcb x0 id)) (q:=fun b=>decide (b.Id=id)) (fun x=>rfl)]
 rfl
theorem zfa {w:Wear} {id:Int}:zdt w id<0↔¬ ∃ j,j<w.Batches.length∧(w.Batches.getD j default).Id=id:=by
 unfold zdt
 cases h:w.Batches.findIdx? (fun b=>decide (b.Id=id)) with
 | none=>
  rw [List.findIdx?_eq_none_iff] at h
  simp only [Int.reduceNeg,Int.reduceLT,true_iff]
  rintro ⟨j,hj,e⟩
  have:=h _ (zcO hj)
  simp [-List.getD_eq_getElem?_getD,e] at this
 | some i=>
  rw [List.findIdx?_eq_some_iff_getElem] at h
  obtain ⟨h1,h2,h3⟩:=h
  refine ⟨fun h=>by simp [-List.getD_eq_getElem?_getD] at h;omega,fun h=>absurd ⟨i,h1,?_⟩ h⟩
  rw [List.getD_eq_getElem?_getD,List.getElem?_eq_getElem h1]
  simpa [-List.getD_eq_getElem?_getD] using h2
theorem zlF (w:Wear) (id:Int):zdt w id<(w.Batches.length:Int):=by
 unfold zdt
 cases h:w.Batches.findIdx? (fun b=>decide (b.Id=id)) with
 | none=>simp [-List.getD_eq_getElem?_getD];omega
 | some i=>
  rw [List.findIdx?_eq_some_iff_getElem] at h
  obtain ⟨h1,h2,h3⟩:=h
  simp [-List.getD_eq_getElem?_getD];omega
theorem zlG {w:Wear} {id:Int} (h:0≤zdt w id):(w.Batches.getD (zdt w id).toNat default).Id=id:=by
 unfold zdt at h ⊢
 cases h':w.Batches.findIdx? (fun b=>decide (b.Id=id)) with
 | none=>rw [h'] at h;simp [-List.getD_eq_getElem?_getD] at h
 | some i=>
  rw [List.findIdx?_eq_some_iff_getElem] at h'
  obtain ⟨h1,h2,h3⟩:=h'
  simp only [Int.toNat_natCast]
  rw [List.getD_eq_getElem?_getD,List.getElem?_eq_getElem h1]
  simpa [-List.getD_eq_getElem?_getD] using h2
theorem zis.sorted {T:Type} [Inhabited T] {ok:T→Prop} {num:T→Int} {l:List T} (h:zis ok num l):l.Pairwise (fun a b=>num a<num b):=znL num (fun i h0 hi=>(h i hi).2 h0)
theorem zis.ok {T:Type} [Inhabited T] {ok:T→Prop} {num:T→Int} {l:List T} (h:zis ok num l) {x:T} (hx:x∈l):ok x:=by
 obtain ⟨i,hi,rfl⟩:=zix hx
 exact (h i hi).1
theorem zis.inj {T:Type} [Inhabited T] {ok:T→Prop} {num:T→Int} {l:List T} (h:zis ok num l) {i j:Nat} (hi:i<l.length) (hj:j<l.length) (e:num (l.getD i default)=num (l.getD j default)):i=j:=by
 rcases Nat.lt_trichotomy i j with h1|h1|h1
 · have:=zkZ h.sorted h1 hj;omega
 · exact h1
 · have:=zkZ h.sorted h1 hi;omega
theorem zlc {w:Wear} (hf:Fits w):Wp (zb1 w) (fun r=>(WearOk w∧r=0)∨(¬ WearOk w∧r=64)):=by
 unfold zb1
 have a1:=zgE (chk:=zaX) (num:=zcG) (fun _=>zfj) (l:=w.Batches) (p1:=8) (by have:=hf.b;omega)
 have a2:=zgE (chk:=zaN) (num:=zcF) (fun _=>zdY) (l:=w.Mantles) (p1:=60) (by have:=hf.m;omega)
 have a3:=zgE (chk:=zaV) (num:=zcE) (fun _=>ze3) (l:=w.Burns) (p1:=60) (by have:=hf.u;omega)
 have a4:=zgE (chk:=zaO) (num:=zc5) (fun _=>ze2) (l:=w.Looks) (p1:=60) (by have:=hf.l;omega)
 refine wp_bind (x:=zcn w.Batches 8 _ _) a1 (fun y1 h1=>?_)
 refine wp_bind (x:=zch w.Mantles 60 _ _) a2 (fun y3 h3=>?_)
 refine wp_bind (x:=zcx w.Burns 60 _ _) a3 (fun y5 h5=>?_)
 refine zjw (Q:=fun y=>y=true↔zis zju (·.Source) w.Looks∧(w.Looks.length:Int)≤60) (fun _=>a4) (fun y7 h7=>?_)
 refine zjw (Q:=fun y=>y=false↔∀ i,i<w.Mantles.length→∃ j,j<w.Batches.length∧(w.Batches.getD j default).Id=(w.Mantles.getD i default).Batch) (fun _=>?_) (fun y9 h9=>?_)
 · unfold zbu zbS
   rw [zf0 (p:=fun x0=>zcD x0 w) (q:=fun m=>decide (zdt w m.Batch<0)) (fun x=>by
    unfold zcD;rw [zh2];rfl)]
   refine zat rfl (zar ?_)
   cases h:w.Mantles.findIdx? (fun m=>decide (zdt w m.Batch<0)) with
   | none=>
    rw [List.findIdx?_eq_none_iff] at h
    refine ⟨fun _ i hi=>?_,fun _=>rfl⟩
    have:=h _ (zcO hi)
    simp only [decide_eq_false_iff_not,zfa,Classical.not_not] at this
    exact this
   | some i=>
    rw [List.findIdx?_eq_some_iff_getElem] at h
    obtain ⟨k1,k2,k3⟩:=h
    refine ⟨fun e=>(by simp [-List.getD_eq_getElem?_getD] at e),fun e=>?_⟩
    have:=e i k1
    rw [List.getD_eq_getElem?_getD (l:=w.Mantles),List.getElem?_eq_getElem k1] at this
    simp only [decide_eq_true_eq,zfa] at k2
    exact absurd this k2
 · refine zbQ (fun hb=>zar (.inr ⟨fun V=>?_,rfl⟩)) (fun hb=>zar (.inl ⟨?_,rfl⟩))
   · have e1:=h1.2 ⟨V.ba,by have:=V.nb;omega⟩
     have e3:=h3.2 ⟨V.ma,by have:=V.nm;omega⟩
     have e5:=h5.2 ⟨V.bu,by have:=V.nu;omega⟩
     have e7:=(h7 (by simp [-List.getD_eq_getElem?_getD,e1,e3,e5])).2 ⟨V.lo,by have:=V.nl;omega⟩
     have e9:=(h9 (by simp [-List.getD_eq_getElem?_getD,e1,e3,e5,e7])).2 V.has
     simp [-List.getD_eq_getElem?_getD,e1,e3,e5,e7,e9] at hb
   · simp only [Bool.or_eq_false_iff,Bool.not_eq_false'] at hb
     obtain ⟨⟨⟨⟨e1,e3⟩,e5⟩,e7⟩,e9⟩:=hb
     have f7:=(h7 (by simp [-List.getD_eq_getElem?_getD,e1,e3,e5])).1 e7
     have f9:=(h9 (by simp [-List.getD_eq_getElem?_getD,e1,e3,e5,e7])).1 e9
     have f1:=h1.1 e1
     have f3:=h3.1 e3
     have f5:=h5.1 e5
     exact ⟨by omega,by omega,by omega,by omega,f1.1,f3.1,f5.1,f7.1,f9⟩
theorem ziV {w:Wear} (h:WearOk w):zb1 w=some 0:=by
 obtain ⟨r,e,h1|h1⟩:=zlc h.fits
 · rw [e,h1.2]
 · exact absurd h h1.1
theorem zns {w:Wear} (hf:Fits w) (h:¬ WearOk w):zb1 w=some 64:=by
 obtain ⟨r,e,h1|h1⟩:=zlc hf
 · exact absurd h1.1 h
 · rw [e,h1.2]
end Go.Sp
end
/- Plain laws, mantle: the document's check; one look more, by both; MantleChecks. No program in sight. -/
section
set_option linter.all false
namespace Go.Sp
open Go.Av
set_option maxRecDepth 100000
theorem zgR {R:Type} {body:Int→(Int→Option R)→Option R} {fuel:Nat} {P:R→Prop} {n:Nat} (hf:n<fuel) (good:Nat→Prop)
 (hb:∀ (i:Nat) (K:Int→Option R),i<n→(∀ j,j<i→good j)→(good i→Wp (K ((i:Int)+1)) P)→Wp (body (i:Int) K) P) (he:(∀ j,j<n→good j)→∀ K,Wp (body (n:Int) K) P):Wp (loopGo body fuel 0) P:=by
 refine zp5 n hf (fun i=>∀ j,j<i→good j) (fun j hj=>by omega) (fun i K hi hI hK=>?_)
 by_cases e:i=n
 · subst e;exact he hI K
 · exact hb i K (by omega) hI (fun g=>hK (by omega) (fun j hj=>by
    by_cases e:j=i
    · rw [e];exact g
    · exact hI j (by omega)))
theorem zlL {R:Type} {P:R→Prop} {i n:Nat} {c0 x y:Int} {bad ok:Option R} (hi:i<n) (hn:n≤60)
 (hbad:¬ (c0=0∧(0<i→x<y))→Wp bad P) (hok:c0=0→(0<i→x<y)→Wp ok P) :
 Wp (must ((((!(!decide (c0=0))) && (decide (0<(i:Int))))=true→(inI ((i:Int) - 1)))) <| must ((((!(!decide (c0=0))) && (decide (0<(i:Int))))=true→(0≤(((i:Int) - 1):Int)∧(((i:Int) - 1):Int)<((n:Nat):Int)))) <| must ((((!(!decide (c0=0))) && (decide (0<(i:Int))))=true→(0≤(i:Int)∧(i:Int)<((n:Nat):Int)))) <| (bif ((!decide (c0=0)) || ((decide (0<(i:Int))) && (decide (y≤x)))) then bad else must (inI ((i:Int)+1)) <| ok)) P:=by
 refine zaA (fun _=>by unfold inI;omega) ?_
 refine zaA (fun h=>by simp [-List.getD_eq_getElem?_getD] at h;omega) ?_
 refine zaA (fun h=>by omega) ?_
 refine zbQ (fun h=>hbad ?_) (fun h=>zaA (by unfold inI;omega) ?_)
 · simp only [Bool.or_eq_true,Bool.not_eq_true',decide_eq_false_iff_not,Bool.and_eq_true,decide_eq_true_eq] at h
   rintro ⟨h1,h2⟩
   rcases h with h|h
   · exact h h1
   · have:=h2 (by omega);omega
 · simp only [Bool.or_eq_false_iff,Bool.not_eq_false',decide_eq_true_eq,Bool.and_eq_false_iff,decide_eq_false_iff_not] at h
   exact hok h.1 (fun h0=>by rcases h.2 with h2|h2 <;> omega)
theorem zl8 {fuel:Nat} {w:Wear} (hn:w.Batches.length≤8) (hf:100<fuel) (id:Int):Wp (zbw fuel w id) (fun b=>b=true↔∃ j,j<w.Batches.length∧(w.Batches.getD j default).Id=id):=by
 unfold zbw
 refine zgR (n:=w.Batches.length) (by omega) (fun i=>(w.Batches.getD i default).Id≠id) (fun i K hi _ hK=>?_) (fun h K=>?_)
 · refine zbP (by simp [-List.getD_eq_getElem?_getD];omega) (zaA (by omega) ?_)
   simp only [Int.toNat_natCast]
   exact zbZ (fun h=>zar ⟨fun _=>⟨i,hi,h⟩,fun _=>rfl⟩) (fun h=>zaA (by unfold inI;omega) (hK h))
 · refine zbs (by simp [-List.getD_eq_getElem?_getD]) (zar ⟨fun h=>(by cases h),fun ⟨j,hj,e⟩=>absurd e (h j hj)⟩)
theorem zk5 {w:Wear} {fuel:Nat} (hfu:100<fuel):Wp (zbd fuel w) (fun r=>(WearOk w∧r=0)∨(¬ WearOk w∧r=64)):=by
 unfold zbd
 refine zbQ (fun hb=>zar (.inr ⟨fun V=>?_,rfl⟩)) (fun hb=>?_)
 · have:=V.nb;have:=V.nm;have:=V.nu;have:=V.nl
   simp [-List.getD_eq_getElem?_getD] at hb;omega
 simp only [Bool.or_eq_false_iff,decide_eq_false_iff_not] at hb
 obtain ⟨⟨⟨n1,n2⟩,n3⟩,n4⟩:=hb
 refine zgR (n:=w.Batches.length) (by omega) (fun i=>BatchOk (w.Batches.getD i default)∧(0<i→(w.Batches.getD (i - 1) default).Id<(w.Batches.getD i default).Id)) (fun i K hi _ hK=>?_) (fun a1 K=>zbs (by simp [-List.getD_eq_getElem?_getD]) ?_)
 · refine zbP (by simp [-List.getD_eq_getElem?_getD];omega) (zaA (by omega) ?_)
   have e:(((i:Int) - 1)).toNat=i - 1:=by omega
   simp only [Int.toNat_natCast,e,zlV]
   refine zlL hi (by omega) (fun h=>zar (.inr ⟨fun V=>h ?_,rfl⟩)) (fun h1 h2=>hK ⟨zfj.1 h1,h2⟩)
   exact ⟨zfj.2 (V.ba i hi).1,(V.ba i hi).2⟩
 refine zgR (n:=w.Mantles.length) (by omega) (fun i=>(MantleOk (w.Mantles.getD i default)∧(0<i→(w.Mantles.getD (i - 1) default).Source<(w.Mantles.getD i default).Source))∧∃ j,j<w.Batches.length∧(w.Batches.getD j default).Id=(w.Mantles.getD i default).Batch) (fun i K hi _ hK=>?_) (fun a2 K=>zbs (by simp [-List.getD_eq_getElem?_getD]) ?_)
 · refine zbP (by simp [-List.getD_eq_getElem?_getD];omega) (zaA (by omega) ?_)
   have e:(((i:Int) - 1)).toNat=i - 1:=by omega
   simp only [Int.toNat_natCast,e]
   refine zat (zk6 _) ?_
   refine zaA (fun h=>by omega) ?_
   refine zjw (fun _=>zl8 (by omega) hfu _) (fun y16 h16=>?_)
   refine zaA (fun _=>by unfold inI;omega) ?_
   refine zaA (fun h=>by simp [-List.getD_eq_getElem?_getD] at h;omega) ?_
   refine zaA (fun h=>by omega) ?_
   refine zbQ (fun h=>zar (.inr ⟨fun V=>?_,rfl⟩)) (fun h=>zaA (by unfold inI;omega) (hK ?_))
   · have h3:=zdY.2 (V.ma i hi).1
     have h4:=(h16 (by simp [-List.getD_eq_getElem?_getD,h3])).2 (V.has i hi)
     simp only [h3,h4,decide_true,Bool.not_true,Bool.or_false,Bool.false_or,Bool.and_eq_true,decide_eq_true_eq] at h
     have:(w.Mantles.getD (i - 1) default).Source<(w.Mantles.getD i default).Source:=(V.ma i hi).2 (by omega)
     omega
   · simp only [Bool.or_eq_false_iff,Bool.not_eq_false',decide_eq_true_eq,Bool.and_eq_false_iff,decide_eq_false_iff_not] at h
     exact ⟨⟨zdY.1 h.1.1,fun h0=>by rcases h.2 with h2|h2 <;> omega⟩,(h16 (by simp [-List.getD_eq_getElem?_getD,h.1.1])).1 h.1.2⟩
 refine zgR (n:=w.Burns.length) (by omega) (fun i=>BurnOk (w.Burns.getD i default)∧(0<i→(w.Burns.getD (i - 1) default).Source<(w.Burns.getD i default).Source)) (fun i K hi _ hK=>?_) (fun a3 K=>zbs (by simp [-List.getD_eq_getElem?_getD]) ?_)
 · refine zbP (by simp [-List.getD_eq_getElem?_getD];omega) (zaA (by omega) ?_)
   have e:(((i:Int) - 1)).toNat=i - 1:=by omega
   simp only [Int.toNat_natCast,e]
   refine zat (zni _) ?_
   refine zlL hi (by omega) (fun h=>zar (.inr ⟨fun V=>h ?_,rfl⟩)) (fun h1 h2=>hK ⟨ze3.1 h1,h2⟩)
   exact ⟨ze3.2 (V.bu i hi).1,(V.bu i hi).2⟩
 refine zgR (n:=w.Looks.length) (by omega) (fun i=>zju (w.Looks.getD i default)∧(0<i→(w.Looks.getD (i - 1) default).Source<(w.Looks.getD i default).Source)) (fun i K hi _ hK=>?_) (fun a4 K=>zbs (by simp [-List.getD_eq_getElem?_getD]) ?_)
 · refine zbP (by simp [-List.getD_eq_getElem?_getD];omega) (zaA (by omega) ?_)
   have e:(((i:Int) - 1)).toNat=i - 1:=by omega
   simp only [Int.toNat_natCast,e]
   refine zat (znh _) ?_
   refine zlL hi (by omega) (fun h=>zar (.inr ⟨fun V=>h ?_,rfl⟩)) (fun h1 h2=>hK ⟨ze2.1 h1,h2⟩)
   exact ⟨ze2.2 (V.lo i hi).1,(V.lo i hi).2⟩
 exact zar (.inl ⟨⟨by omega,by omega,by omega,by omega,a1,fun i hi=>(a2 i hi).1,a3,a4,fun i hi=>(a2 i hi).2⟩,rfl⟩)
theorem zn3 {w:Wear} {fuel:Nat} (hfu:100<fuel) (h:WearOk w):zbd fuel w=some 0:=by
 obtain ⟨r,e,h1|h1⟩:=zk5 (w:=w) hfu
 · rw [e,h1.2]
 · exact absurd h h1.1
theorem zng {w:Wear} {fuel:Nat} (hfu:100<fuel) (h:¬ WearOk w):zbd fuel w=some 64:=by
 obtain ⟨r,e,h1|h1⟩:=zk5 (w:=w) hfu
 · exact absurd h1.1 h
 · rw [e,h1.2]
end Go.Sp
end
/- Plain laws, mantle: the chapter's examples. -/
section
set_option linter.all false
namespace Go.Sp
open Go.Av
theorem zk1:zdD 20000=some true:=by kernel_rfl
end Go.Sp
end
/- Plain laws, mantle: one look more, by both; MantleChecks. No program in sight. -/
section
set_option linter.all false
namespace Go.Sp
open Go.Av
set_option maxRecDepth 100000
theorem cmpI (a b:Int):zbo a b=if a<b then -1 else if b<a then 1 else 0:=by
 unfold zbo cmp_isNaN_int
 by_cases h1:a<b
 · simp [-List.getD_eq_getElem?_getD,h1]
 · by_cases h2:b<a <;> simp [-List.getD_eq_getElem?_getD,h1,h2]
structure InsAt (l:List Look) (x:Look) (k:Nat):Prop where
 le:k≤l.length
 lo:∀ i,i<k→(l.getD i default).Source<x.Source
 hi:∀ i,k≤i→i<l.length→¬ (l.getD i default).Source<x.Source
def zoR:Wear:=⟨[],[],[],[]⟩
end Go.Sp
end
/- Plain laws: slices.SortStableFunc on ints ends, and what it leaves is a rearrangement. No program in sight. -/
section
set_option linter.all false
namespace Go.Sp
open Go.Av
set_option maxRecDepth 100000
theorem swap_perm {l s:List Int} (h:s.Perm l) {i j:Int} (hi:0≤i∧i<(s.length:Int)) (hj:0≤j∧j<(s.length:Int)) :
 ((s.set i.toNat (s.getD j.toNat default)).set j.toNat (s.getD i.toNat default)).Perm l:=by
 have h1:i.toNat<s.length:=by omega
 have h2:j.toNat<s.length:=by omega
 rw [List.getD_eq_getElem?_getD,List.getElem?_eq_getElem h2,List.getD_eq_getElem?_getD,List.getElem?_eq_getElem h1]
 exact (List.set_set_perm h1 h2).trans h
theorem half {x:Int} (h:0≤x):Int.fdiv x (2 ^ (1:Int).toNat)=x / 2:=by
 rw [show (1:Int).toNat=1 from rfl,Int.fdiv_eq_ediv_of_nonneg _ (by decide)];rfl
theorem ziU {l s:List Int} (h:s.Perm l) {i:Nat} (hi:i<s.length):s.getD i default∈l:=h.mem_iff.1 (zcO hi)
def Cmp (l:List Int) (c:Int→Int→Option Int):Prop:=∀ a∈l,∀ b∈l,∃ r,c a b=some r
theorem Cmp.perm {l s:List Int} {c:Int→Int→Option Int} (H:Cmp l c) (h:s.Perm l):Cmp s c:=fun a ha b hb=>H a (h.mem_iff.1 ha) b (h.mem_iff.1 hb)
theorem zif {fuel:Nat} (hf:1000≤fuel) {l:List Int} (hl:l.length≤100) {c:Int→Int→Option Int} (H:Cmp l c) {a b:Int} (ha:0≤a∧a≤1000) (hb:b≤(l.length:Int)) :
 Wp (zaJ fuel l a b c) (fun r=>r.Perm l):=by
 unfold zaJ
 refine zaw (by omega) ?_
 refine wp_loop (fun s=>a<s.1∧s.2.Perm l) (fun s=>(b - s.1).toNat) (by simp only;omega) ⟨by simp only;omega,.refl _⟩ (fun s K hI hK=>?_)
 obtain ⟨i,s⟩:=s
 obtain ⟨h1,h2⟩:=hI
 simp only at h1 h2 hK ⊢
 refine zbZ (fun hlt=>?_) (fun _=>zar h2)
 refine wp_loop (fun t=>a≤t.1∧t.1≤i∧t.2.Perm l) (fun t=>(t.1 - a).toNat) (by simp only;omega) ⟨by simp only;omega,by simp only;omega,h2⟩ (fun t K2 hI2 hK2=>?_)
 obtain ⟨j,t⟩:=t
 obtain ⟨g1,g2,g3⟩:=hI2
 simp only at g1 g2 g3 hK2 ⊢
 have hlen:=g3.length_eq
 refine zaA (fun h=>by have:=of_decide_eq_true h;omega) (zaA (fun h=>by unfold inI;omega) (zaA (fun h=>by have:=of_decide_eq_true h;omega) ?_))
 refine zjw (Q:=fun _=>True) (fun h=>?_) (fun y _=>?_)
 · have:=of_decide_eq_true h
   obtain ⟨r,e⟩:=H _ (ziU g3 (i:=j.toNat) (by omega)) _ (ziU g3 (i:=(j - 1).toNat) (by omega))
   exact ⟨r,e,trivial⟩
 refine zbQ (fun h=>?_) (fun h=>zaw (by omega) (hK _ ⟨by simp only;omega,g3⟩ (by simp only;omega)))
 simp only [Bool.and_eq_true,decide_eq_true_eq] at h
 refine zaw (by omega) (zaw (by omega) (zaA (by omega) (zaA (by omega) (zaA (by omega) (zaA (by rw [List.length_set];omega) (zaw (by omega) ?_))))))
 exact hK2 _ ⟨by simp only;omega,by simp only;omega,swap_perm g3 (by omega) (by omega)⟩ (by simp only;omega)
theorem zfJ {fuel:Nat} (hf:1000≤fuel) {l:List Int} (hl:l.length≤100) {c:Int→Int→Option Int} {a b n:Int} (ha:0≤a) (hb:0≤b) (han:a+n≤(l.length:Int)) (hbn:b+n≤(l.length:Int)) :
 Wp (zaK fuel l a b n c) (fun r=>r.Perm l):=by
 unfold zaK
 refine wp_loop (fun s=>0≤s.1∧s.2.Perm l) (fun s=>(n - s.1).toNat) (by simp only;omega) ⟨by simp [-List.getD_eq_getElem?_getD],.refl _⟩ (fun s K hI hK=>?_)
 obtain ⟨i,s⟩:=s
 obtain ⟨h1,h2⟩:=hI
 simp only at h1 h2 hK ⊢
 have hlen:=h2.length_eq
 refine zbZ (fun hlt=>?_) (fun _=>zar h2)
 refine zaw (by omega) (zaw (by omega) (zaw (by omega) (zaA (by omega) (zaw (by omega) (zaA (by omega) (zaA (by omega) (zaA (by rw [List.length_set];omega) (zaw (by omega) ?_))))))))
 exact hK _ ⟨by simp only;omega,swap_perm h2 (by omega) (by omega)⟩ (by simp only;omega)
theorem znX {fuel:Nat} (hf:1000≤fuel) {l:List Int} (hl:l.length≤100) {c:Int→Int→Option Int} {a m b:Int} (ha:0≤a) (ham:a<m) (hmb:m<b) (hb:b≤(l.length:Int)) :
 Wp (za4 fuel l a m b c) (fun r=>r.Perm l):=by
 unfold za4
 refine zaw (by omega) (zaw (by omega) ?_)
 refine wp_loop (fun s=>1≤s.1∧s.1≤m - a∧1≤s.2.1∧s.2.1≤b - m∧s.2.2.Perm l) (fun s=>(s.1+s.2.1).toNat) (by simp only;omega) ⟨by simp only;omega,by simp only;omega,by simp only;omega,by simp only;omega,.refl _⟩ (fun s K hI hK=>?_)
 obtain ⟨i,j,s⟩:=s
 obtain ⟨h1,h2,h3,h4,h5⟩:=hI
 simp only at h1 h2 h3 h4 h5 hK ⊢
 have hlen:=h5.length_eq
 refine zeW (fun hne=>?_) (fun he=>?_)
 · refine zbZ (fun hlt=>?_) (fun hge=>?_)
   · refine zaw (by omega) (wp_bind (zfJ hf (by omega) (by omega) (by omega) (by omega) (by omega)) (fun y hy=>zaA hy.length_eq (zaw (by omega) (hK _ ⟨by simp only;omega,by simp only;omega,by simp only;omega,by simp only;omega,hy.trans h5⟩ (by simp only;omega)))))
   · refine zaw (by omega) (zaw (by omega) (zaw (by omega) (wp_bind (zfJ hf (by omega) (by omega) (by omega) (by omega) (by omega)) (fun y hy=>zaA hy.length_eq (zaw (by omega) (hK _ ⟨by simp only;omega,by simp only;omega,by simp only;omega,by simp only;omega,hy.trans h5⟩ (by simp only;omega)))))))
 · exact zaw (by omega) (wp_bind (zfJ hf (by omega) (by omega) (by omega) (by omega) (by omega)) (fun y hy=>zar (hy.trans h5)))
theorem zfc {fuel:Nat} (hf:1000≤fuel) {c:Int→Int→Option Int}:∀ (n:Nat) {l:List Int},l.length≤100→Cmp l c→∀ {a m b:Int},0≤a→a<m→m<b→b≤(l.length:Int)→(b - a).toNat<n →
 Wp (zaL fuel n l a m b c) (fun r=>r.Perm l)
 | 0,l,_,_,a,m,b,_,_,_,_,hn=>absurd hn (Nat.not_lt_zero _)
 | n+1,l,hl,H,a,m,b,ha,ham,hmb,hb,hn=>by
  show Wp (zaZ fuel (zaL fuel n) l a m b c) _
  unfold zaZ
  have hc:∀ i j:Int,0≤i→i<(l.length:Int)→0≤j→j<(l.length:Int)→Wp (c (l.getD i.toNat default) (l.getD j.toNat default)) (fun _=>True):=fun i j h1 h2 h3 h4=>by
   obtain ⟨r,e⟩:=H _ (zcO (l:=l) (i:=i.toNat) (by omega)) _ (zcO (l:=l) (i:=j.toNat) (by omega))
   exact ⟨r,e,trivial⟩
  refine zaw (by omega) ?_
  refine zbZ (fun e1=>?_) (fun e1=>?_)
  · refine wp_loop (fun s=>m≤s.1∧s.1≤s.2∧s.2≤b) (fun s=>(s.2 - s.1).toNat) (by simp only;omega) ⟨by simp only;omega,by simp only;omega,by simp [-List.getD_eq_getElem?_getD]⟩ (fun s K hI hK=>?_)
    obtain ⟨i,j⟩:=s
    obtain ⟨h1,h2,h3⟩:=hI
    simp only at h1 h2 h3 hK ⊢
    refine zbZ (fun hlt=>?_) (fun hge=>?_)
    · rw [half (by omega)]
      refine zaw (by omega) (zaA (by unfold inU;omega) (zaw (by omega) (zaA (by omega) (zaA (by omega) (wp_bind (hc _ _ (by omega) (by omega) (by omega) (by omega)) (fun y _=>?_))))))
      refine zbZ (fun _=>zaw (by omega) (hK _ ⟨by simp only;omega,by simp only;omega,by simp only;omega⟩ (by simp only;omega))) (fun _=>hK _ ⟨by simp only;omega,by simp only;omega,by simp only;omega⟩ (by simp only;omega))
    · refine wp_loop (fun s=>0≤s.1∧s.2.Perm l) (fun s=>(b - s.1).toNat) (by simp only;omega) ⟨by simp only;omega,.refl _⟩ (fun s K2 hI2 hK2=>?_)
      obtain ⟨k,s⟩:=s
      obtain ⟨g1,g2⟩:=hI2
      simp only at g1 g2 hK2 ⊢
      have hlen:=g2.length_eq
      refine zaw (by omega) (zbZ (fun hk=>?_) (fun _=>zar g2))
      refine zaw (by omega) (zaw (by omega) (zaA (by omega) (zaA (by omega) (zaA (by omega) (zaA (by rw [List.length_set];omega) (zaw (by omega) ?_))))))
      exact hK2 _ ⟨by simp only;omega,swap_perm g2 (by omega) (by omega)⟩ (by simp only;omega)
  refine zaw (by omega) ?_
  refine zbZ (fun e2=>?_) (fun e2=>?_)
  · refine wp_loop (fun s=>a≤s.1∧s.1≤s.2∧s.2≤m) (fun s=>(s.2 - s.1).toNat) (by simp only;omega) ⟨by simp [-List.getD_eq_getElem?_getD],by simp only;omega,by simp [-List.getD_eq_getElem?_getD]⟩ (fun s K hI hK=>?_)
    obtain ⟨i,j⟩:=s
    obtain ⟨h1,h2,h3⟩:=hI
    simp only at h1 h2 h3 hK ⊢
    refine zbZ (fun hlt=>?_) (fun hge=>?_)
    · rw [half (by omega)]
      refine zaw (by omega) (zaA (by unfold inU;omega) (zaw (by omega) (zaA (by omega) (zaA (by omega) (wp_bind (hc _ _ (by omega) (by omega) (by omega) (by omega)) (fun y _=>?_))))))
      refine zeW (fun _=>zaw (by omega) (hK _ ⟨by simp only;omega,by simp only;omega,by simp only;omega⟩ (by simp only;omega))) (fun _=>hK _ ⟨by simp only;omega,by simp only;omega,by simp only;omega⟩ (by simp only;omega))
    · refine wp_loop (fun s=>s.1≤m∧s.2.Perm l) (fun s=>(s.1 - i).toNat) (by simp only;omega) ⟨by simp [-List.getD_eq_getElem?_getD],.refl _⟩ (fun s K2 hI2 hK2=>?_)
      obtain ⟨k,s⟩:=s
      obtain ⟨g1,g2⟩:=hI2
      simp only at g1 g2 hK2 ⊢
      have hlen:=g2.length_eq
      refine zbZ (fun hk=>?_) (fun _=>zar g2)
      refine zaw (by omega) (zaw (by omega) (zaA (by omega) (zaA (by omega) (zaA (by omega) (zaA (by rw [List.length_set];omega) (zaw (by omega) ?_))))))
      exact hK2 _ ⟨by simp only;omega,swap_perm g2 (by omega) (by omega)⟩ (by simp only;omega)
  rw [half (by omega)]
  refine zaw (by omega) (zaA (by unfold inU;omega) (zaw (by omega) (zaw (by omega) ?_)))
  have hmid:a<(a+b) / 2∧(a+b) / 2<b:=by omega
  generalize hmd:(a+b) / 2=mid at hmid ⊢
  have hm2:2 * mid≤a+b∧a+b≤2 * mid+1:=by omega
  refine zd6 (fun s=>a≤s.1∧mid+m - b≤s.1∧s.1≤s.2∧(s.2=mid∧mid<m∨s.2=m∧m≤mid)) (fun K hK=>?_) (fun s hs=>?_)
  · refine zbZ (fun h=>zaw (by omega) (hK _ ⟨by simp only;omega,by simp only;omega,by simp only;omega,.inl ⟨rfl,h⟩⟩)) (fun h=>hK _ ⟨by simp [-List.getD_eq_getElem?_getD],by simp only;omega,by simp only;omega,.inr ⟨rfl,by omega⟩⟩)
  obtain ⟨st,r⟩:=s
  obtain ⟨s1,s2,s3,s4⟩:=hs
  simp only at s1 s2 s3 s4 ⊢
  refine zaw (by omega) ?_
  refine wp_loop (fun s=>st≤s.1∧s.1≤s.2∧s.2≤r) (fun s=>(s.2 - s.1).toNat) (by simp only;omega) ⟨by simp [-List.getD_eq_getElem?_getD],s3,by simp [-List.getD_eq_getElem?_getD]⟩ (fun s K hI hK=>?_)
  obtain ⟨i,j⟩:=s
  obtain ⟨h1,h2,h3⟩:=hI
  simp only at h1 h2 h3 hK ⊢
  refine zbZ (fun hlt=>?_) (fun hge=>?_)
  · rw [half (by omega)]
    refine zaw (by omega) (zaA (by unfold inU;omega) (zaw (by omega) (zaw (by omega) (zaA (by omega) (zaA (by omega) (wp_bind (hc _ _ (by omega) (by omega) (by omega) (by omega)) (fun y _=>?_)))))))
    refine zeW (fun _=>zaw (by omega) (hK _ ⟨by simp only;omega,by simp only;omega,by simp only;omega⟩ (by simp only;omega))) (fun _=>hK _ ⟨by simp only;omega,by simp only;omega,by simp only;omega⟩ (by simp only;omega))
  refine zaw (by omega) ?_
  refine zd6 (fun s=>s.Perm l) (fun K hK=>?_) (fun s hs=>?_)
  · refine zbQ (fun h=>?_) (fun h=>hK _ (.refl _))
    simp only [Bool.and_eq_true,decide_eq_true_eq] at h
    exact wp_bind (znX hf hl (by omega) (by omega) (by omega) (by omega)) (fun y hy=>zaA hy.length_eq (hK _ hy))
  have hsl:=hs.length_eq
  refine zd6 (fun s=>s.Perm l) (fun K hK=>?_) (fun t ht=>?_)
  · refine zbQ (fun h=>?_) (fun h=>hK _ hs)
    simp only [Bool.and_eq_true,decide_eq_true_eq] at h
    exact wp_bind (zfc hf n (by omega) (H.perm hs) (by omega) (by omega) (by omega) (by omega) (by omega)) (fun y hy=>zaA hy.length_eq (hK _ (hy.trans hs)))
  have htl:=ht.length_eq
  refine zbQ (fun h=>?_) (fun h=>zar ht)
  simp only [Bool.and_eq_true,decide_eq_true_eq] at h
  exact wp_bind (zfc hf n (by omega) (H.perm ht) (by omega) (by omega) (by omega) (by omega) (by omega)) (fun y hy=>zar (hy.trans ht))
theorem zka {fuel:Nat} (hf:1000≤fuel) {l:List Int} (hl:l.length≤100) {c:Int→Int→Option Int} (H:Cmp l c):Wp (zaF fuel l c) (fun r=>r.Perm l):=by
 unfold zaF
 refine wp_bind (Q:=fun r=>r.Perm l) ?_ (fun y hy=>zar hy)
 unfold zbt
 refine wp_loop (fun s=>0≤s.1∧s.1+20=s.2.1∧s.1≤(l.length:Int)∧s.2.2.Perm l) (fun s=>(200 - s.1).toNat) (by simp only;omega) ⟨by simp [-List.getD_eq_getElem?_getD],by simp [-List.getD_eq_getElem?_getD],by simp only;omega,.refl _⟩ (fun s K hI hK=>?_)
 obtain ⟨i,j,s⟩:=s
 obtain ⟨h1,h2,h3,h4⟩:=hI
 simp only at h1 h2 h3 h4 hK ⊢
 have hlen:=h4.length_eq
 refine zbZ (fun hlt=>?_) (fun hge=>?_)
 · exact wp_bind (zif hf (by omega) (H.perm h4) (by omega) (by omega)) (fun y hy=>zaA hy.length_eq (zaw (by omega) (hK _ ⟨by simp only;omega,by simp only,by simp only;omega,hy.trans h4⟩ (by simp only;omega))))
 refine wp_bind (zif hf (by omega) (H.perm h4) (by omega) (by omega)) (fun y hy=>zaA hy.length_eq ?_)
 have hy':=hy.trans h4
 refine wp_loop (fun s=>20≤s.1∧s.1≤200∧s.2.Perm l) (fun s=>(200 - s.1).toNat) (by simp only;omega) ⟨by simp [-List.getD_eq_getElem?_getD],by simp [-List.getD_eq_getElem?_getD],hy'⟩ (fun t K2 hI2 hK2=>?_)
 obtain ⟨bs,t⟩:=t
 obtain ⟨g1,g2,g3⟩:=hI2
 simp only at g1 g2 g3 hK2 ⊢
 refine zbZ (fun hbs=>?_) (fun _=>zar g3)
 refine zaw (by omega) ?_
 refine wp_loop (fun s=>0≤s.1∧s.1+2 * bs=s.2.1∧s.1≤(l.length:Int)∧s.2.2.Perm l) (fun s=>(1000 - s.1).toNat - 100) (by simp only;omega) ⟨by simp [-List.getD_eq_getElem?_getD],by simp [-List.getD_eq_getElem?_getD],by simp only;omega,g3⟩ (fun u K3 hI3 hK3=>?_)
 obtain ⟨x,z,u⟩:=u
 obtain ⟨u1,u2,u3,u4⟩:=hI3
 simp only at u1 u2 u3 u4 hK3 ⊢
 have hul:=u4.length_eq
 refine zbZ (fun hz=>?_) (fun hz=>?_)
 · exact zaw (by omega) (wp_bind (zfc hf fuel (by omega) (H.perm u4) (by omega) (by omega) (by omega) (by omega) (by omega)) (fun y hy=>zaA hy.length_eq (zaw (by omega) (zaw (by omega) (hK3 _ ⟨by simp only;omega,by simp only,by simp only;omega,hy.trans u4⟩ (by simp only;omega))))))
 refine zaw (by omega) ?_
 refine zd6 (fun s=>s.Perm l) (fun K4 hK4=>?_) (fun v hv=>zaw (by omega) (hK2 _ ⟨by simp only;omega,by simp only;omega,hv⟩ (by simp only;omega)))
 refine zbZ (fun hx=>?_) (fun hx=>hK4 _ u4)
 exact wp_bind (zfc hf fuel (by omega) (H.perm u4) (by omega) (by omega) (by omega) (by omega) (by omega)) (fun y hy=>zaA hy.length_eq (hK4 _ (hy.trans u4)))
end Go.Sp
end
/- Plain laws, mantle: which mantle a lamp has, by both; which burns tell; ages as sums. No program in sight. -/
section
set_option linter.all false
namespace Go.Sp
open Go.Av
set_option maxRecDepth 100000
def mt (w:Wear) (i:Nat):Mantle:=w.Mantles.getD i default
def bn (w:Wear) (i:Nat):Burn:=w.Burns.getD i default
def Cand (w:Wear) (lamp night known:Int) (j:Nat):Prop:=(mt w j).Lamp=lamp∧(mt w j).Night≤night∧zau (mt w j).Known (mt w j).Until known=true
instance (w:Wear) (lamp night known:Int) (j:Nat):Decidable (Cand w lamp night known j):=inferInstanceAs (Decidable (_∧_∧_))
def fitN (w:Wear) (lamp night known:Int):Nat→Int
 | 0=>-1
 | n+1=>if Cand w lamp night known n∧(fitN w lamp night known n<0∨(mt w (fitN w lamp night known n).toNat).Night≤(mt w n).Night) then (n:Int) else fitN w lamp night known n
def fit (w:Wear) (lamp night known:Int):Int:=fitN w lamp night known w.Mantles.length
structure FitIs (w:Wear) (lamp night known:Int) (n:Nat) (i:Nat):Prop where
 lt:i<n
 cand:Cand w lamp night known i
 top:∀ j,j<n→Cand w lamp night known j→(mt w j).Night≤(mt w i).Night∧(i<j→(mt w j).Night<(mt w i).Night)
theorem zjb (w:Wear) (lamp night known:Int):∀ n,(fitN w lamp night known n = -1∧∀ j,j<n→¬ Cand w lamp night known j)∨∃ i:Nat,fitN w lamp night known n=(i:Int)∧FitIs w lamp night known n i
 | 0=>.inl ⟨rfl,fun j hj=>absurd hj (Nat.not_lt_zero _)⟩
 | n+1=>by
  unfold fitN
  rcases zjb w lamp night known n with ⟨e,h⟩|⟨i,e,h⟩
  · rw [e]
    by_cases hc:Cand w lamp night known n
    · rw [if_pos ⟨hc,.inl (by omega)⟩]
      refine .inr ⟨n,rfl,by omega,hc,fun j hj hcj=>?_⟩
      by_cases e:j=n
      · subst e;exact ⟨Int.le_refl _,fun h=>absurd h (Nat.lt_irrefl _)⟩
      · exact absurd hcj (h j (by omega))
    · rw [if_neg (fun h=>hc h.1)]
      refine .inl ⟨rfl,fun j hj=>?_⟩
      by_cases e:j=n
      · rw [e];exact hc
      · exact h j (by omega)
  · rw [e,Int.toNat_natCast]
    by_cases hc:Cand w lamp night known n∧((i:Int)<0∨(mt w i).Night≤(mt w n).Night)
    · rw [if_pos hc]
      have h2:(mt w i).Night≤(mt w n).Night:=hc.2.resolve_left (by omega)
      refine .inr ⟨n,rfl,by omega,hc.1,fun j hj hcj=>?_⟩
      by_cases e:j=n
      · subst e;exact ⟨Int.le_refl _,fun h=>absurd h (Nat.lt_irrefl _)⟩
      · have:=(h.top j (by omega) hcj).1
        exact ⟨by omega,fun h=>by omega⟩
    · rw [if_neg hc]
      refine .inr ⟨i,rfl,by have:=h.lt;omega,h.cand,fun j hj hcj=>?_⟩
      by_cases e:j=n
      · subst e
        have:¬ (mt w i).Night≤(mt w j).Night:=fun h=>hc ⟨hcj,.inr h⟩
        exact ⟨by omega,fun _=>by omega⟩
      · exact h.top j (by omega) hcj
theorem zkx (w:Wear) (lamp night known:Int):(fit w lamp night known = -1∧∀ j,j<w.Mantles.length→¬ Cand w lamp night known j)∨∃ i:Nat,fit w lamp night known=(i:Int)∧FitIs w lamp night known w.Mantles.length i:=zjb w lamp night known _
theorem FitIs.eq {w:Wear} {lamp night known:Int} {i j:Nat} (h1:FitIs w lamp night known w.Mantles.length i) (h2:FitIs w lamp night known w.Mantles.length j):i=j:=by
 have a:=h1.top j h2.lt h2.cand
 have b:=h2.top i h1.lt h1.cand
 rcases Nat.lt_trichotomy i j with h|h|h
 · have:=a.2 h;omega
 · exact h
 · have:=b.2 h;omega
theorem FitIs.fit {w:Wear} {lamp night known:Int} {i:Nat} (h:FitIs w lamp night known w.Mantles.length i):fit w lamp night known=(i:Int):=by
 rcases zkx w lamp night known with ⟨e,h2⟩|⟨j,e,h2⟩
 · exact absurd h.cand (h2 i h.lt)
 · rw [e,h2.eq h]
theorem zmY {w:Wear} {lamp night known:Int} {i:Nat} (h:Go.Sp.fit w lamp night known=(i:Int)):FitIs w lamp night known w.Mantles.length i:=by
 rcases zkx w lamp night known with ⟨e,h2⟩|⟨j,e,h2⟩
 · omega
 · have:i=j:=by omega
   subst this;exact h2
theorem zlr (w:Wear) (lamp night known:Int) : -1≤fit w lamp night known∧fit w lamp night known<(w.Mantles.length:Int):=by
 rcases zkx w lamp night known with ⟨e,_⟩|⟨j,e,h⟩
 · omega
 · have:=h.lt;omega
theorem FitIs.earlier {w:Wear} {lamp night known night':Int} {i:Nat} (h:FitIs w lamp night known w.Mantles.length i) (h1:(mt w i).Night≤night') (h2:night'≤night):FitIs w lamp night' known w.Mantles.length i:=
 ⟨h.lt,⟨h.cand.1,h1,h.cand.2.2⟩,fun j hj hc=>h.top j hj ⟨hc.1,by have:=hc.2.1;omega,hc.2.2⟩⟩
theorem zi9 (w:Wear) (lamp night known:Int):zbW w lamp night known=some (fit w lamp night known):=by
 unfold zbW
 refine Wp.eq (zeF (fun i s=>s=fitN w lamp night known i) rfl (fun i s K hi hI hK=>?_) (fun s hs=>zar hs))
 have hs:=zjb w lamp night known i
 rw [← hI] at hs
 refine zaA (fun h=>?_) ?_
 · simp only [Bool.and_eq_true,Bool.not_eq_true',decide_eq_false_iff_not] at h
   rcases hs with ⟨e,_⟩|⟨j,e,hj⟩
   · omega
   · have:=hj.lt;omega
 have e:((((decide ((w.Mantles.getD i default).Lamp=lamp)) && (decide ((w.Mantles.getD i default).Night≤night))) && (zau ((w.Mantles.getD i default).Known) ((w.Mantles.getD i default).Until) known)) && ((decide (s<0)) || (decide ((w.Mantles.getD (s).toNat default).Night≤(w.Mantles.getD i default).Night))))=decide (Cand w lamp night known i∧(s<0∨(mt w s.toNat).Night≤(mt w i).Night)):=by
  rw [Bool.eq_iff_iff]
  simp only [Bool.and_eq_true,Bool.or_eq_true,decide_eq_true_eq,Cand,mt,and_assoc]
 rw [e]
 refine zbZ (fun h=>hK _ ?_) (fun h=>hK _ ?_)
 · subst hI;unfold fitN;rw [if_pos h]
 · subst hI;conv=>rhs;unfold fitN
   rw [if_neg h]
def zm4:Mantle:=⟨0,0,0,0,0,0⟩
def atR (w:Wear) (lamp night known:Int):Mantle×Bool:=if fit w lamp night known<0 then (zm4,false) else (mt w (fit w lamp night known).toNat,true)
theorem rcounts (a b c:Int):zaz a b c=zau a b c:=rfl
theorem at_eq {w:Wear} {fuel:Nat} (hf:w.Mantles.length<fuel) (hn:w.Mantles.length≤60) (lamp night known:Int):zbq fuel w lamp night known=some (atR w lamp night known):=by
 unfold zbq
 refine Wp.eq ?_
 refine wp_loop (fun s=>∃ i:Nat,s.2.1=(i:Int)∧i≤w.Mantles.length∧s.1 = !decide (fitN w lamp night known i<0)∧s.2.2=if fitN w lamp night known i<0 then zm4 else mt w (fitN w lamp night known i).toNat) (fun s=>w.Mantles.length - s.2.1.toNat) (by simp [-List.getD_eq_getElem?_getD];omega) ⟨0,rfl,Nat.zero_le _,rfl,rfl⟩ (fun s K hI hK=>?_)
 obtain ⟨b,x,m⟩:=s
 obtain ⟨i,h1,h2,h3,h4⟩:=hI
 simp only at h1 h2 h3 h4 hK ⊢
 subst h1
 by_cases hin:i<w.Mantles.length
 · refine zbP (by simp [-List.getD_eq_getElem?_getD];omega) (zaA (by omega) ?_)
   simp only [Int.toNat_natCast] at hK ⊢
   have e:((((decide ((w.Mantles.getD i default).Lamp=lamp)) && (decide ((w.Mantles.getD i default).Night≤night))) && (zaz ((w.Mantles.getD i default).Known) ((w.Mantles.getD i default).Until) known)) && ((!b) || (decide (m.Night≤(w.Mantles.getD i default).Night))))=decide (Cand w lamp night known i∧(fitN w lamp night known i<0∨(mt w (fitN w lamp night known i).toNat).Night≤(mt w i).Night)):=by
    rw [Bool.eq_iff_iff,h3,h4]
    by_cases hc:fitN w lamp night known i<0
    · simp only [hc,Bool.and_eq_true,Bool.or_eq_true,decide_eq_true_eq,Cand,mt,and_assoc,rcounts];simp [-List.getD_eq_getElem?_getD]
    · simp only [hc,Bool.and_eq_true,Bool.or_eq_true,decide_eq_true_eq,Cand,mt,and_assoc,rcounts];simp [-List.getD_eq_getElem?_getD]
   rw [e]
   refine zbZ (fun h=>zaw (by omega) (hK _ ⟨i+1,by simp [-List.getD_eq_getElem?_getD],by omega,?_,?_⟩ (by simp only;omega))) (fun h=>zaw (by omega) (hK _ ⟨i+1,by simp [-List.getD_eq_getElem?_getD],by omega,?_,?_⟩ (by simp only;omega)))
   · simp only;unfold fitN;rw [if_pos h];simp [-List.getD_eq_getElem?_getD]
   · simp only;unfold fitN;rw [if_pos h,if_neg (by omega)];simp [-List.getD_eq_getElem?_getD,mt]
   · simp only;unfold fitN;rw [if_neg h];exact h3
   · simp only;unfold fitN;rw [if_neg h];exact h4
 · have:i=w.Mantles.length:=by omega
   subst this
   refine zbs (by simp [-List.getD_eq_getElem?_getD]) (zar ?_)
   unfold atR fit
   rw [h3,h4]
   by_cases hc:fitN w lamp night known w.Mantles.length<0
   · simp [-List.getD_eq_getElem?_getD,hc]
   · simp [-List.getD_eq_getElem?_getD,hc]
def tell (w:Wear) (known:Int) (i:Nat):Bool:=decide (0≤fit w (bn w i).Lamp (bn w i).Night known) && zau (bn w i).Known (bn w i).Until known &&
 decide (∀ k,k<w.Burns.length→i<k→¬ ((bn w k).Lamp=(bn w i).Lamp∧(bn w k).Night=(bn w i).Night∧zau (bn w k).Known (bn w k).Until known=true))
def zbR (P:Nat→Bool) (f:Nat→Int):Nat→Int
 | 0=>0
 | n+1=>zbR P f n+(if P n=true then f n else 0)
theorem zfK {P Q:Nat→Bool} {f:Nat→Int}:∀ {n:Nat},(∀ i,i<n→P i=Q i)→zbR P f n=zbR Q f n
 | 0,_=>rfl
 | n+1,h=>by unfold zbR;rw [zfK (fun i hi=>h i (by omega)),h n (by omega)]
theorem ziH {P Q:Nat→Bool} {f:Nat→Int}:∀ {n:Nat},(∀ i,i<n→0≤f i)→(∀ i,i<n→P i=true→Q i=true)→zbR P f n≤zbR Q f n
 | 0,_,_=>Int.le_refl _
 | n+1,h0,h=>by
  unfold zbR
  have h1:=ziH (fun i hi=>h0 i (by omega)) (fun i hi=>h i (by omega)) (P:=P) (Q:=Q) (f:=f) (n:=n)
  have h2:=h0 n (by omega)
  by_cases hp:P n=true
  · rw [if_pos hp,if_pos (h n (by omega) hp)];omega
  · rw [if_neg hp];split <;> omega
theorem zfL {P:Nat→Bool} {f:Nat→Int} {c:Int} (hc:0≤c):∀ {n:Nat},(∀ i,i<n→0≤f i∧f i≤c)→0≤zbR P f n∧zbR P f n≤(n:Int) * c
 | 0,_=>by simp [-List.getD_eq_getElem?_getD,zbR]
 | n+1,h=>by
  unfold zbR
  have h1:=zfL hc (fun i hi=>h i (by omega)) (P:=P) (f:=f) (n:=n)
  have h2:=h n (by omega)
  have:((n+1:Nat):Int) * c=(n:Int) * c+c:=by rw [Int.natCast_add,Int.add_mul];simp [-List.getD_eq_getElem?_getD]
  rw [this]
  split <;> omega
theorem zjK {P Q R:Nat→Bool} {f:Nat→Int}:∀ {n:Nat},(∀ i,i<n→R i=(P i || Q i))→(∀ i,i<n→¬ (P i=true∧Q i=true))→zbR R f n=zbR P f n+zbR Q f n
 | 0,_,_=>rfl
 | n+1,h1,h2=>by
  unfold zbR
  rw [zjK (fun i hi=>h1 i (by omega)) (fun i hi=>h2 i (by omega)),h1 n (by omega)]
  have:=h2 n (by omega)
  cases hp:P n <;> cases hq:Q n <;> simp_all [-List.getD_eq_getElem?_getD] <;> omega
def zkp (w:Wear) (known m from_ to:Int) (i:Nat):Bool:=tell w known i && decide (fit w (bn w i).Lamp (bn w i).Night known=m) && (decide (from_<(bn w i).Night) && decide ((bn w i).Night≤to))
def zeV (w:Wear) (known m from_ to:Int):Int:=zbR (zkp w known m from_ to) (fun i=>(bn w i).Minutes.Lo) w.Burns.length
def zcA (w:Wear) (known m from_ to:Int):Int:=zbR (zkp w known m from_ to) (fun i=>(bn w i).Minutes.Hi) w.Burns.length
end Go.Sp
end
/- Plain laws, mantle: which burns tell, ages, by both; the burns of each mantle. No program in sight. -/
section
set_option linter.all false
namespace Go.Sp
open Go.Av
set_option maxRecDepth 100000
theorem zeH {T:Type} [Inhabited T] {p:T→Option Bool} {q:T→Bool} (hp:∀ x,p x=some (q x)) (l:List T) :
 (zas (zax (fun i1 (s1:Unit) k1=>zas (p (l.getD i1 default)) fun y3=>(bif y3 then some (i1:Int) else k1 ())) (fun (s1:Unit)=>some (-1)) l.length 0 ():Option Int) fun y1=>some (decide (0≤y1)))=some (l.any q):=by
 rw [zf0 hp l]
 show some _=some _
 congr 1
 cases h:l.findIdx? q with
 | none=>
  rw [List.findIdx?_eq_none_iff] at h
  have:l.any q=false:=by rw [List.any_eq_false];intro x hx;simp [-List.getD_eq_getElem?_getD,h x hx]
  rw [this];rfl
 | some i=>
  rw [List.findIdx?_eq_some_iff_getElem] at h
  obtain ⟨h1,h2,_⟩:=h
  have:l.any q=true:=List.any_eq_true.2 ⟨_,List.getElem_mem h1,h2⟩
  rw [this];simp [-List.getD_eq_getElem?_getD]
def zjT (w:Wear) (known:Int) (i k:Nat):Prop:=(bn w k).Lamp=(bn w i).Lamp∧(bn w k).Night=(bn w i).Night∧zau (bn w k).Known (bn w k).Until known=true
theorem zmv {w:Wear} {known:Int} {i:Nat}:tell w known i=true↔0≤fit w (bn w i).Lamp (bn w i).Night known∧zau (bn w i).Known (bn w i).Until known=true∧∀ k,k<w.Burns.length→i<k→¬ zjT w known i k:=by
 simp only [tell,Bool.and_eq_true,decide_eq_true_eq,and_assoc,zjT]
theorem zpN {w:Wear} {known:Int} {i:Nat}:(w.Burns.drop (i+1)).any (fun x0=>zbg x0 (bn w i) known)=true↔∃ k,k<w.Burns.length∧i<k∧zjT w known i k:=by
 rw [List.any_eq_true]
 constructor
 · rintro ⟨x,hx,h⟩
   obtain ⟨j,hj,rfl⟩:=zix hx
   rw [List.length_drop] at hj
   rw [getD_drop] at h
   refine ⟨i+1+j,by omega,by omega,?_⟩
   simp only [zbg,Bool.and_eq_true,decide_eq_true_eq,and_assoc] at h
   exact h
 · rintro ⟨k,hk,hik,h⟩
   refine ⟨bn w k,?_,by simp only [zbg,Bool.and_eq_true,decide_eq_true_eq,and_assoc];exact h⟩
   have:(w.Burns.drop (i+1)).getD (k - (i+1)) default=bn w k:=by rw [getD_drop];unfold bn;congr 1;omega
   rw [← this]
   exact zcO (by rw [List.length_drop];omega)
theorem zna {w:Wear} (V:WearOk w) {fuel:Nat} (hf:100<fuel) (known:Int):zbI fuel w known=some ((List.range w.Burns.length).map (tell w known)):=by
 have nu:=V.nu;have nm:=V.nm
 unfold zbI
 refine Wp.eq ?_
 refine zkX w.Burns.length (by omega) (fun i (s:List Bool)=>s=(List.range i).map (tell w known)) rfl (fun i s K hi hI hK=>?_)
 subst hI
 by_cases hin:i<w.Burns.length
 · refine zbP (by simp [-List.getD_eq_getElem?_getD];omega) (zaA (by simp only;omega) ?_)
   simp only [Int.toNat_natCast]
   refine zat (at_eq (by omega) nm _ _ known) (zaw (by omega) ?_)
   refine wp_loop (fun s=>∃ k:Nat,s.1=(k:Int)∧i+1≤k∧k≤w.Burns.length∧(s.2=true↔0≤fit w (bn w i).Lamp (bn w i).Night known∧zau (bn w i).Known (bn w i).Until known=true∧∀ j,j<k→i<j→¬ zjT w known i j)) (fun s=>w.Burns.length - s.1.toNat) (by simp only;omega)
    ⟨i+1,by simp [-List.getD_eq_getElem?_getD],Nat.le_refl _,hin,?_⟩ (fun s K2 hI2 hK2=>?_)
   · show (_ && _)=true↔_
     have e:(atR w (w.Burns.getD i default).Lamp (w.Burns.getD i default).Night known).2=decide (0≤fit w (bn w i).Lamp (bn w i).Night known):=by
      unfold atR bn
      by_cases h:fit w (w.Burns.getD i default).Lamp (w.Burns.getD i default).Night known<0
      · rw [if_pos h];simp [-List.getD_eq_getElem?_getD];omega
      · rw [if_neg h];simp [-List.getD_eq_getElem?_getD];omega
     rw [e,Bool.and_eq_true,decide_eq_true_eq]
     exact ⟨fun h=>⟨h.1,h.2,fun j hj hij=>by omega⟩,fun h=>⟨h.1,h.2.1⟩⟩
   obtain ⟨x,b⟩:=s
   obtain ⟨k,h1,h2,h3,h4⟩:=hI2
   simp only at h1 h4 hK2 ⊢
   subst h1
   by_cases hk:k<w.Burns.length
   · refine zbP (by simp [-List.getD_eq_getElem?_getD];omega) (zaA (by omega) (zaw (by omega) (hK2 _ ⟨k+1,by simp [-List.getD_eq_getElem?_getD],by omega,by omega,?_⟩ (by simp only;omega))))
     simp only [Int.toNat_natCast,Bool.and_eq_true,h4]
     have e:(((!decide ((w.Burns.getD k default).Lamp=(w.Burns.getD i default).Lamp)) || (!decide ((w.Burns.getD k default).Night=(w.Burns.getD i default).Night))) || (!(zaz ((w.Burns.getD k default).Known) ((w.Burns.getD k default).Until) known)))=true↔¬ zjT w known i k:=by
      simp only [Bool.or_eq_true,Bool.not_eq_true',decide_eq_false_iff_not,zjT,bn,rcounts]
      constructor
      · rintro ((h|h)|h) ⟨h1,h2,h3⟩
        · exact h h1
        · exact h h2
        · rw [h] at h3;cases h3
      · intro h
        by_cases h1:(w.Burns.getD k default).Lamp=(w.Burns.getD i default).Lamp
        · by_cases h2:(w.Burns.getD k default).Night=(w.Burns.getD i default).Night
          · refine .inr ?_
            cases h3:zau (w.Burns.getD k default).Known (w.Burns.getD k default).Until known with
            | false=>rfl
            | true=>exact absurd ⟨h1,h2,h3⟩ h
          · exact .inl (.inr h2)
        · exact .inl (.inl h1)
     rw [e]
     constructor
     · rintro ⟨⟨a1,a2,a3⟩,a4⟩
       refine ⟨a1,a2,fun j hj hij=>?_⟩
       by_cases e:j=k
       · rw [e];exact a4
       · exact a3 j (by omega) hij
     · rintro ⟨a1,a2,a3⟩
       exact ⟨⟨a1,a2,fun j hj hij=>a3 j (by omega) hij⟩,a3 k (by omega) (by omega)⟩
   · have:k=w.Burns.length:=by omega
     subst this
     refine zbs (by simp [-List.getD_eq_getElem?_getD]) (zgq (by simp [-List.getD_eq_getElem?_getD];omega) (zaw (by omega) (hK _ hin ?_)))
     rw [List.range_succ,List.map_append]
     congr 1
     simp only [List.map_cons,List.map_nil]
     congr 1
     rw [Bool.eq_iff_iff,h4,zmv]
 · have:i=w.Burns.length:=by omega
   subst this
   exact zbs (by simp [-List.getD_eq_getElem?_getD]) (zar rfl)
theorem zlC {w:Wear} (V:WearOk w) {i:Nat} (hi:i<w.Burns.length):BurnOk (bn w i):=(V.bu i hi).1
theorem sum60 {w:Wear} (V:WearOk w) (P:Nat→Bool) {n:Nat} (hn:n≤w.Burns.length):(0≤zbR P (fun i=>(bn w i).Minutes.Lo) n∧zbR P (fun i=>(bn w i).Minutes.Lo) n≤86400)∧(0≤zbR P (fun i=>(bn w i).Minutes.Hi) n∧zbR P (fun i=>(bn w i).Minutes.Hi) n≤86400):=by
 have nu:=V.nu
 have h1:=zfL (P:=P) (f:=fun i=>(bn w i).Minutes.Lo) (c:=1440) (by decide) (n:=n) (fun i hi=>by have:=(zlC V (i:=i) (by omega)).min;omega)
 have h2:=zfL (P:=P) (f:=fun i=>(bn w i).Minutes.Hi) (c:=1440) (by decide) (n:=n) (fun i hi=>by have:=(zlC V (i:=i) (by omega)).min;omega)
 have:(n:Int) * 1440≤86400:=by omega
 omega
def zf1 (w:Wear) (known:Int) (m:Mantle) (night:Int) (i:Nat):Bool:=tell w known i && decide ((bn w i).Lamp=m.Lamp) && zan (bn w i).Night m.Night night
theorem zpn {w:Wear} (V:WearOk w) {fuel:Nat} (hf:100<fuel) (m:Mantle) (night known:Int):zaM fuel w m ⟨night,known⟩=some ⟨zbR (zf1 w known m night) (fun i=>(bn w i).Minutes.Lo) w.Burns.length,zbR (zf1 w known m night) (fun i=>(bn w i).Minutes.Hi) w.Burns.length⟩:=by
 have nu:=V.nu
 unfold zaM
 refine Wp.eq (zat (zna V hf known) ?_)
 refine zkX w.Burns.length (by omega) (fun i (s:Range)=>s=⟨zbR (zf1 w known m night) (fun i=>(bn w i).Minutes.Lo) i,zbR (zf1 w known m night) (fun i=>(bn w i).Minutes.Hi) i⟩) rfl (fun i s K hi hI hK=>?_)
 subst hI
 by_cases hin:i<w.Burns.length
 · have hb:=(zlC V hin).min
   have h60:=sum60 V (zf1 w known m night) (n:=i) (by omega)
   refine zbP (by simp [-List.getD_eq_getElem?_getD];omega) (zaA (by simp only;omega) (zaA (by simp [-List.getD_eq_getElem?_getD];omega) ?_))
   simp only [Int.toNat_natCast]
   have e:((((List.range w.Burns.length).map (tell w known)).getD i default && (decide ((w.Burns.getD i default).Lamp=m.Lamp))) && (zan ((w.Burns.getD i default).Night) m.Night night))=zf1 w known m night i:=by
    have:((List.range w.Burns.length).map (tell w known)).getD i default=tell w known i:=by
     rw [List.getD_eq_getElem?_getD,List.getElem?_map,List.getElem?_range hin];rfl
    rw [this];rfl
   rw [e]
   have e3:∀ f:Nat→Int,zbR (zf1 w known m night) f (i+1)=zbR (zf1 w known m night) f i+(if zf1 w known m night i=true then f i else 0):=fun f=>rfl
   unfold bn at hb h60
   refine zbQ (fun h=>zaw (by simp only [bn];omega) (zaw (by simp only [bn];omega) (zaw (by omega) (hK _ hin ?_)))) (fun h=>zaw (by omega) (hK _ hin ?_))
   · rw [e3,e3,if_pos h,if_pos h];rfl
   · rw [e3,e3,if_neg (by rw [h];decide),if_neg (by rw [h];decide),Int.add_zero,Int.add_zero]
 · have:i=w.Burns.length:=by omega
   subst this
   exact zbs (by simp [-List.getD_eq_getElem?_getD]) (zar rfl)
theorem zmR {w:Wear} (V:WearOk w) {known lamp night:Int} {m:Nat} (h:FitIs w lamp night known w.Mantles.length m) {i:Nat} (hi:i<w.Burns.length):zf1 w known (mt w m) night i=zkp w known (m:Int) (-1) night i:=by
 rw [Bool.eq_iff_iff]
 unfold zf1 zkp zan
 simp only [Bool.and_eq_true,decide_eq_true_eq]
 have hb:=(zlC V hi).told.night
 constructor
 · rintro ⟨⟨h1,h2⟩,h3,h4⟩
   refine ⟨⟨h1,?_⟩,by omega,h4⟩
   rw [h2,h.cand.1]
   exact (h.earlier h3 h4).fit
 · rintro ⟨⟨h1,h2⟩,h3,h4⟩
   have h5:=zmY h2
   exact ⟨⟨h1,h5.cand.1.symm⟩,h5.cand.2.1,h4⟩
theorem zkc {w:Wear} (V:WearOk w) {fuel:Nat} (hf:100<fuel) {known lamp night:Int} {m:Nat} (h:FitIs w lamp night known w.Mantles.length m):zaM fuel w (mt w m) ⟨night,known⟩=some ⟨zeV w known m (-1) night,zcA w known m (-1) night⟩:=by
 rw [zpn V hf]
 unfold zeV zcA
 rw [zfK (fun i hi=>zmR V h hi),zfK (fun i hi=>zmR V h hi)]
def zh1 (w:Wear) (known m:Int) (n:Nat):List Int:=((List.range n).filter (fun i=>tell w known i && decide (fit w (bn w i).Lamp (bn w i).Night known=m))).map (fun i:Nat=>(i:Int))
theorem zjY {w:Wear} {known m:Int} {n:Nat}:zh1 w known m (n+1)=if tell w known n=true∧fit w (bn w n).Lamp (bn w n).Night known=m then zh1 w known m n++[(n:Int)] else zh1 w known m n:=by
 unfold zh1
 rw [List.range_succ,List.filter_append,List.map_append]
 by_cases h:tell w known n=true∧fit w (bn w n).Lamp (bn w n).Night known=m
 · rw [if_pos h]
   simp [-List.getD_eq_getElem?_getD,h]
 · rw [if_neg h]
   have:(tell w known n && decide (fit w (bn w n).Lamp (bn w n).Night known=m))=false:=by
    rw [Bool.and_eq_false_iff,decide_eq_false_iff_not]
    by_cases h1:tell w known n=true
    · exact .inr (fun h2=>h ⟨h1,h2⟩)
    · exact .inl (by simpa [-List.getD_eq_getElem?_getD] using h1)
   simp [-List.getD_eq_getElem?_getD,this]
theorem zhw {w:Wear} {known m:Int} {n:Nat} {x:Int} (h:x∈zh1 w known m n):0≤x∧x<(n:Int):=by
 unfold zh1 at h
 rw [List.mem_map] at h
 obtain ⟨i,hi,rfl⟩:=h
 have:=List.mem_range.1 (List.mem_filter.1 hi).1
 omega
theorem zjr (w:Wear) (known m:Int) (n:Nat):(zh1 w known m n).length≤n:=by
 unfold zh1
 rw [List.length_map]
 exact Nat.le_trans (List.length_filter_le _ _) (by simp [-List.getD_eq_getElem?_getD])
theorem Mp.zpq {T:Type}:(Mp.empty:Mp T).ok:=⟨List.nodup_nil,rfl,fun k hk=>by cases hk⟩
theorem Mp.ok_set {T:Type} {m:Mp T} (h:m.ok) (hd:∀ k,(m.get k).isSome=true→k∈m.keys) (q:Int) (x:T):(m.set q x).ok∧∀ k,((m.set q x).get k).isSome=true→k∈(m.set q x).keys:=by
 obtain ⟨h1,h2,h3⟩:=h
 unfold Mp.set Mp.ok
 by_cases hq:(m.get q).isSome=true
 · simp only [hq,if_true]
   refine ⟨⟨h1,h2,fun k hk=>?_⟩,fun k hk=>?_⟩
   · by_cases e:k=q
     · rw [if_pos e];rfl
     · rw [if_neg e];exact h3 k hk
   · by_cases e:k=q
     · rw [e];exact hd q hq
     · rw [if_neg e] at hk;exact hd k hk
 · simp only [hq]
   have hnq:q ∉ m.keys:=fun h=>hq (h3 q h)
   refine ⟨⟨?_,by simp [-List.getD_eq_getElem?_getD,h2],fun k hk=>?_⟩,fun k hk=>?_⟩
   · show (m.keys++[q]).Nodup
     rw [List.nodup_append]
     exact ⟨h1,by simp [-List.getD_eq_getElem?_getD],fun a ha b hb=>by
      rw [List.mem_singleton] at hb
      subst hb
      exact fun e=>hnq (e▸ha)⟩
   · by_cases e:k=q
     · rw [if_pos e];rfl
     · rw [if_neg e]
       have:k∈m.keys++[q]:=hk
       rw [List.mem_append,List.mem_singleton] at this
       exact h3 k (this.resolve_right e)
   · show k∈m.keys++[q]
     rw [List.mem_append,List.mem_singleton]
     by_cases e:k=q
     · exact .inr e
     · rw [if_neg e] at hk;exact .inl (hd k hk)
theorem zpP {w:Wear} (V:WearOk w) {fuel:Nat} (hf:1000≤fuel) (known:Int):Wp (zd0 fuel w known) (fun mp=>∀ m,((mp.get m).getD default).Perm (zh1 w known m w.Burns.length)):=by
 have nu:=V.nu
 unfold zd0
 refine zeF (fun i s=>(s.ok∧∀ k,(s.get k).isSome=true→k∈s.keys)∧∀ m,(s.get m).getD []=zh1 w known m i) ⟨⟨Mp.zpq,fun k hk=>by cases hk⟩,fun m=>rfl⟩ (fun i s K hi hI hK=>?_) (fun s hs=>?_)
 · obtain ⟨⟨h1,h2⟩,h3⟩:=hI
   refine zat (zi9 w _ _ known) (zaA (fun _=>by omega) ?_)
   refine zjw (Q:=fun y=>y=(w.Burns.drop (i+1)).any (fun x0=>zbg x0 (bn w i) known)) (fun _=>?_) (fun y6 h6=>?_)
   · have e:(((i:Int)+1)).toNat=i+1:=by omega
     rw [e]
     exact ⟨_,zeH (q:=fun x0=>zbg x0 (bn w i) known) (fun x=>rfl) _,rfl⟩
   have e:(((decide (0≤fit w (w.Burns.getD i default).Lamp (w.Burns.getD i default).Night known)) && (zau ((w.Burns.getD i default).Known) ((w.Burns.getD i default).Until) known)) && (!y6))=tell w known i:=by
    rw [Bool.eq_iff_iff,zmv]
    simp only [Bool.and_eq_true,Bool.not_eq_true',decide_eq_true_eq,and_assoc,bn]
    refine and_congr_right (fun a1=>and_congr_right (fun a2=>?_))
    have h7:=h6 (by simp only [Bool.and_eq_true,decide_eq_true_eq];exact ⟨a1,a2⟩)
    rw [h7,← Bool.not_eq_true,zpN]
    exact ⟨fun h k hk hik hl=>h ⟨k,hk,hik,hl⟩,fun h ⟨k,hk,hik,hl⟩=>h k hk hik hl⟩
   rw [e]
   have hlen:=zjr w known (fit w (w.Burns.getD i default).Lamp (w.Burns.getD i default).Night known) i
   refine zbQ (fun ht=>zgq (by rw [h3];simp [-List.getD_eq_getElem?_getD];omega) (hK _ ⟨Mp.ok_set h1 h2 _ _,fun m=>?_⟩)) (fun ht=>hK _ ⟨⟨h1,h2⟩,fun m=>?_⟩)
   · rw [h3]
     show (if m=_ then some _ else s.get m).getD []=_
     rw [zjY]
     by_cases e1:m=fit w (bn w i).Lamp (bn w i).Night known
     · have e2:tell w known i=true∧fit w (bn w i).Lamp (bn w i).Night known=m:=⟨ht,e1.symm⟩
       rw [if_pos e2,e1]
       exact congrArg (fun z=>Option.getD z []) (if_pos rfl)
     · have e2:¬ (tell w known i=true∧fit w (bn w i).Lamp (bn w i).Night known=m):=fun h=>e1 h.2.symm
       rw [if_neg e2,← h3 m]
       exact congrArg (fun z=>Option.getD z []) (if_neg e1)
   · rw [zjY,if_neg (fun h=>by rw [ht] at h;cases h.1),h3]
 · obtain ⟨⟨h1,h2⟩,h3⟩:=hs
   refine zaA h1 ?_
   have hsort:∀ m,Wp (zaF fuel ((s.get m).getD []) (fun x0 x1=>zbF x0 x1 w)) (fun r=>r.Perm ((s.get m).getD [])):=fun m=>by
    have hl:=zjr w known m w.Burns.length
    refine zka hf (by rw [h3];omega) (fun a ha b hb=>?_)
    rw [h3] at ha hb
    have a1:=zhw ha
    have b1:=zhw hb
    unfold zbF
    rw [zfh a1,zfh b1]
    exact ⟨_,rfl⟩
   have hrow:∀ m,Wp (zas (zaF fuel ((s.get m).getD []) (fun x0 x1=>zbF x0 x1 w)) fun y13=>must (y13.length=((s.get m).getD []).length) (some y13)) (fun r=>r.Perm ((s.get m).getD [])):=fun m=>wp_bind (hsort m) (fun y hy=>zaA hy.length_eq (zar hy))
   refine wp_bind (Q:=fun y=>∀ m,((y.get m).getD default).Perm (zh1 w known m w.Burns.length)) ?_ (fun y hy=>zar hy)
   unfold Mp.zmM
   have hall:s.keys.all (fun k=>((fun (l11:List Int)=>zas (zaF fuel l11 (fun x0 x1=>zbF x0 x1 w)) fun y13=>must (y13.length=l11.length) (some y13)) ((s.get k).getD default)).isSome)=true:=by
    rw [List.all_eq_true]
    intro k _
    obtain ⟨r,e,_⟩:=hrow k
    show (zas (zaF fuel ((s.get k).getD []) (fun x0 x1=>zbF x0 x1 w)) fun y13=>must (y13.length=((s.get k).getD []).length) (some y13)).isSome=true
    rw [e];rfl
   rw [hall]
   refine zar (fun m=>?_)
   rw [← h3]
   obtain ⟨r,e,hr⟩:=hrow m
   cases hm:s.get m with
   | none=>simp only [hm];exact .refl _
   | some l=>
    rw [hm] at e hr
    simp only [Option.getD_some,hm] at e hr ⊢
    rw [e];exact hr
end Go.Sp
end
/- Plain laws, mantle: the closet: which lives each batch may have. No program in sight. -/
section
set_option linter.all false
namespace Go.Sp
open Go.Av
set_option maxRecDepth 100000
def lsum (g:Int→Int):List Int→Int
 | []=>0
 | x::l=>g x+lsum g l
theorem zok {g:Int→Int} {l r:List Int} (h:l.Perm r):lsum g l=lsum g r:=by
 induction h with
 | nil=>rfl
 | cons x _ ih=>unfold lsum;rw [ih]
 | swap x y l=>unfold lsum;unfold lsum;omega
 | trans _ _ h1 h2=>rw [h1,h2]
theorem zfY {g:Int→Int} (l:List Int) (x:Int):lsum g (l++[x])=lsum g l+g x:=by
 induction l with
 | nil=>simp [-List.getD_eq_getElem?_getD,lsum]
 | cons y l ih=>rw [List.cons_append];unfold lsum;rw [ih];omega
theorem zjS {g:Int→Int} {c:Int} (hc:0≤c):∀ {l:List Int},(∀ x∈l,0≤g x∧g x≤c)→0≤lsum g l∧lsum g l≤(l.length:Int) * c
 | [],_=>by simp [-List.getD_eq_getElem?_getD,lsum]
 | x::l,h=>by
  unfold lsum
  have h1:=zjS hc (fun y hy=>h y (List.mem_cons_of_mem _ hy)) (g:=g) (l:=l)
  have h2:=h x (List.mem_cons_self ..)
  have:((x::l).length:Int) * c=(l.length:Int) * c+c:=by rw [List.length_cons,Int.natCast_add,Int.add_mul];simp [-List.getD_eq_getElem?_getD]
  rw [this];omega
theorem zjR {P:Nat→Bool} {g:Int→Int}:∀ {n:Nat},lsum g (((List.range n).filter P).map (fun i:Nat=>(i:Int)))=zbR P (fun i=>g i) n
 | 0=>rfl
 | n+1=>by
  rw [List.range_succ,List.filter_append,List.map_append]
  unfold zbR
  rw [← zjR]
  by_cases h:P n=true
  · rw [if_pos h]
    have:(List.filter P [n]).map (fun i:Nat=>(i:Int))=[(n:Int)]:=by simp [-List.getD_eq_getElem?_getD,h]
    rw [this,zfY]
  · rw [if_neg h]
    have:(List.filter P [n]).map (fun i:Nat=>(i:Int))=[]:=by simp [-List.getD_eq_getElem?_getD,h]
    rw [this,List.append_nil,Int.add_zero]
theorem zjJ {P Q:Nat→Bool} {f:Nat→Int}:∀ {n:Nat},zbR P (fun i=>if Q i=true then f i else 0) n=zbR (fun i=>P i && Q i) f n
 | 0=>rfl
 | n+1=>by
  unfold zbR
  rw [zjJ]
  cases hp:P n <;> cases hq:Q n <;> simp [-List.getD_eq_getElem?_getD]
structure CoatOk (w:Wear) (known:Int) (m:Nat) (S:List mantle_sight) (c:mantle_coat):Prop where
 wear:c.w=w
 burns:c.burns.Perm (zh1 w known m w.Burns.length)
 sights:c.sights=S
theorem zeY {T:Type} [Inhabited T] {l:List T} {i:Nat} (h:i<l.length):l.take (i+1)=l.take i++[l.getD i default]:=by
 rw [List.take_add_one,List.getElem?_eq_getElem h,List.getD_eq_getElem?_getD,List.getElem?_eq_getElem h];rfl
theorem zkS {w:Wear} (V:WearOk w) {known:Int} {m:Nat} {S:List mantle_sight} {c:mantle_coat} (hc:CoatOk w known m S c) (f t:Int):zbe c f t=some ⟨zeV w known m f t,zcA w known m f t⟩:=by
 have nu:=V.nu
 unfold zbe
 rw [hc.wear]
 have hlen:c.burns.length≤60:=by have:=hc.burns.length_eq;have:=zjr w known m w.Burns.length;omega
 have hin:∀ i,i<c.burns.length→0≤c.burns.getD i default∧c.burns.getD i default<(w.Burns.length:Int):=fun i hi=>zhw (hc.burns.mem_iff.1 (zcO hi))
 let g:(Burn→Int)→Int→Int:=fun F x=>if f<(bn w x.toNat).Night∧(bn w x.toNat).Night≤t then F (bn w x.toNat) else 0
 have hL:∀ F,(∀ b,BurnOk b→0≤F b∧F b≤1440)→∀ i,0≤lsum (g F) (c.burns.take i)∧lsum (g F) (c.burns.take i)≤86400:=fun F hF i=>by
  have:=zjS (g:=g F) (c:=1440) (by decide) (l:=c.burns.take i) (fun x hx=>by
   have hx':=zhw (hc.burns.mem_iff.1 (List.mem_of_mem_take hx))
   have:=hF _ (zlC V (i:=x.toNat) (by omega))
   simp only [g]
   split <;> omega)
  have h2:(c.burns.take i).length≤60:=by rw [List.length_take];omega
  omega
 have hlo:∀ b,BurnOk b→0≤b.Minutes.Lo∧b.Minutes.Lo≤1440:=fun b hb=>by have:=hb.min;omega
 have hhi:∀ b,BurnOk b→0≤b.Minutes.Hi∧b.Minutes.Hi≤1440:=fun b hb=>by have:=hb.min;omega
 refine Wp.eq (zeF (fun i s=>s=⟨lsum (g (·.Minutes.Lo)) (c.burns.take i),lsum (g (·.Minutes.Hi)) (c.burns.take i)⟩) rfl (fun i s K hi hI hK=>?_) (fun s hs=>zar ?_))
 · subst hI
   have a:=hin i hi
   have b1:=hL _ hlo i
   have b2:=hL _ hhi i
   have hb:=(zlC V (i:=(c.burns.getD i default).toNat) (by omega)).min
   refine zaA a ?_
   have e:((decide (f<(w.Burns.getD ((c.burns.getD i default)).toNat default).Night)) && (decide ((w.Burns.getD ((c.burns.getD i default)).toNat default).Night≤t)))=decide (f<(bn w (c.burns.getD i default).toNat).Night∧(bn w (c.burns.getD i default).toNat).Night≤t):=by
    rw [Bool.decide_and];rfl
   rw [e]
   unfold bn at hb
   refine zbZ (fun h=>zaw (by simp only;omega) (zaw (by simp only;omega) (hK _ ?_))) (fun h=>hK _ ?_)
   · rw [zeY hi,zfY,zfY]
     simp only [g]
     rw [if_pos h,if_pos h];rfl
   · rw [zeY hi,zfY,zfY]
     simp only [g]
     rw [if_neg h,if_neg h,Int.add_zero,Int.add_zero]
 · rw [hs,List.take_length]
   have key:∀ F:Burn→Int,lsum (g F) c.burns=zbR (zkp w known m f t) (fun i=>F (bn w i)) w.Burns.length:=fun F=>by
    rw [zok hc.burns]
    unfold zh1
    rw [zjR]
    have:(fun i:Nat=>g F (i:Int))=fun i:Nat=>if (decide (f<(bn w i).Night) && decide ((bn w i).Night≤t))=true then F (bn w i) else 0:=by
     funext i
     simp only [g,Int.toNat_natCast,Bool.and_eq_true,decide_eq_true_eq]
    rw [this,zjJ]
    rfl
   have k1:=key (fun b=>b.Minutes.Lo)
   have k2:=key (fun b=>b.Minutes.Hi)
   show Range.mk _ _=Range.mk _ _
   rw [k1,k2];rfl
structure Ends (S:List mantle_sight) (g b:Int):Prop where
 top:∀ x∈S,x.bad=false→x.night≤g
 good:g = -1∨∃ x∈S,x.bad=false∧x.night=g
 low:∀ x∈S,x.bad=true→b ≠ -1∧b≤x.night
 bad:b = -1∨∃ x∈S,x.bad=true∧x.night=b
 g0 : -1≤g
 b0 : -1≤b
theorem Ends.uniq {S:List mantle_sight} {g b g' b':Int} (h:Ends S g b) (h':Ends S g' b'):g=g'∧b=b':=by
 constructor
 · rcases h.good with e|⟨x,hx,h1,h2⟩ <;> rcases h'.good with e'|⟨y,hy,h3,h4⟩
   · omega
   · have:=h.top y hy h3;have:=h'.g0;have:=h.g0;omega
   · have:=h'.top x hx h1;have:=h'.g0;have:=h.g0;omega
   · have:=h.top y hy h3;have:=h'.top x hx h1;omega
 · rcases h.bad with e|⟨x,hx,h1,h2⟩ <;> rcases h'.bad with e'|⟨y,hy,h3,h4⟩
   · omega
   · exact absurd e (h.low y hy h3).1
   · exact absurd e' (h'.low x hx h1).1
   · have:=(h.low y hy h3).2;have:=(h'.low x hx h1).2;omega
theorem zoM (c:mantle_coat) (hn:∀ x∈c.sights,0≤x.night):Wp (zcq c) (fun r=>Ends c.sights r.1 r.2):=by
 unfold zcq
 refine zeF (fun i s=>Ends (c.sights.take i) s.1 s.2) ⟨fun x hx=>by simp [-List.getD_eq_getElem?_getD] at hx,.inl rfl,fun x hx=>by simp [-List.getD_eq_getElem?_getD] at hx,.inl rfl,by decide,by decide⟩ (fun i s K hi hI hK=>?_) (fun s hs=>zar (by rw [List.take_length] at hs;exact hs))
 obtain ⟨g,b⟩:=s
 obtain ⟨h1,h2,h3,h4,h5,h6⟩:=hI
 simp only at h1 h2 h3 h4 h5 h6 ⊢
 have e:c.sights.getD i default=c.sights.getD i default:=rfl
 have hm:=zcO hi
 have h0:=hn _ hm
 generalize hx:c.sights.getD i default=x at hm h0 ⊢
 have hmem:∀ y,y∈c.sights.take (i+1)↔y∈c.sights.take i∨y=x:=fun y=>by rw [zeY hi,hx];simp [-List.getD_eq_getElem?_getD]
 refine zbQ (fun hb=>hK _ ?_) (fun hb=>?_)
 · have hb':x.bad=false:=by simpa [-List.getD_eq_getElem?_getD] using hb
   refine ⟨fun y hy hyb=>?_,?_,fun y hy hyb=>?_,?_,?_,h6⟩
   · rcases (hmem y).1 hy with hy|rfl
     · have:=h1 y hy hyb;simp only;omega
     · simp only;omega
   · simp only
     rcases Int.le_total g x.night with hle|hle
     · exact .inr ⟨x,(hmem x).2 (.inr rfl),hb',by omega⟩
     · rcases h2 with e|⟨y,hy,y1,y2⟩
       · exact .inr ⟨x,(hmem x).2 (.inr rfl),hb',by omega⟩
       · exact .inr ⟨y,(hmem y).2 (.inl hy),y1,by omega⟩
   · rcases (hmem y).1 hy with hy|rfl
     · exact h3 y hy hyb
     · rw [hb'] at hyb;cases hyb
   · rcases h4 with e|⟨y,hy,y1,y2⟩
     · exact .inl e
     · exact .inr ⟨y,(hmem y).2 (.inl hy),y1,y2⟩
   · simp only;omega
 · have hb':x.bad=true:=by simpa [-List.getD_eq_getElem?_getD] using hb
   refine zbQ (fun hc=>hK _ ?_) (fun hc=>hK _ ?_)
   · simp only [Bool.or_eq_true,decide_eq_true_eq] at hc
     refine ⟨fun y hy hyb=>?_,?_,fun y hy hyb=>?_,.inr ⟨x,(hmem x).2 (.inr rfl),hb',rfl⟩,h5,by simp only;omega⟩
     · rcases (hmem y).1 hy with hy|rfl
       · exact h1 y hy hyb
       · rw [hb'] at hyb;cases hyb
     · rcases h2 with e|⟨y,hy,y1,y2⟩
       · exact .inl e
       · exact .inr ⟨y,(hmem y).2 (.inl hy),y1,y2⟩
     · simp only
       rcases (hmem y).1 hy with hy|rfl
       · have:=h3 y hy hyb;omega
       · omega
   · simp only [Bool.or_eq_false_iff,decide_eq_false_iff_not] at hc
     refine ⟨fun y hy hyb=>?_,?_,fun y hy hyb=>?_,?_,h5,h6⟩
     · rcases (hmem y).1 hy with hy|rfl
       · exact h1 y hy hyb
       · rw [hb'] at hyb;cases hyb
     · rcases h2 with e|⟨y,hy,y1,y2⟩
       · exact .inl e
       · exact .inr ⟨y,(hmem y).2 (.inl hy),y1,y2⟩
     · rcases (hmem y).1 hy with hy|rfl
       · exact h3 y hy hyb
       · simp only;omega
     · rcases h4 with e|⟨y,hy,y1,y2⟩
       · exact .inl e
       · exact .inr ⟨y,(hmem y).2 (.inl hy),y1,y2⟩
theorem znK {w:Wear} (V:WearOk w) {known m f t t':Int} (h:t≤t'):zeV w known m f t≤zeV w known m f t':=by
 refine ziH (fun i hi=>by have:=(zlC V hi).min;omega) (fun i hi hp=>?_)
 simp only [zkp,Bool.and_eq_true,decide_eq_true_eq] at hp ⊢
 exact ⟨hp.1,hp.2.1,by omega⟩
theorem zem {w:Wear} (V:WearOk w) {known m f f' t t':Int} (h:t≤t') (hf:f'≤f):zcA w known m f t≤zcA w known m f' t':=by
 refine ziH (fun i hi=>by have:=(zlC V hi).min;omega) (fun i hi hp=>?_)
 simp only [zkp,Bool.and_eq_true,decide_eq_true_eq] at hp ⊢
 exact ⟨hp.1,by omega,by omega⟩
theorem zhA {w:Wear} (V:WearOk w) (known m f t:Int):(0≤zeV w known m f t∧zeV w known m f t≤86400)∧(0≤zcA w known m f t∧zcA w known m f t≤86400):=sum60 V _ (Nat.le_refl _)
theorem zfz {w:Wear} {known m:Int} {a b c:Int} (h1:a≤b) (h2:b≤c):zcA w known m a c=zcA w known m a b+zcA w known m b c:=by
 refine zjK (fun i hi=>?_) (fun i hi h=>?_)
 · rw [Bool.eq_iff_iff]
   simp only [zkp,Bool.or_eq_true,Bool.and_eq_true,decide_eq_true_eq]
   constructor
   · rintro ⟨h3,h4,h5⟩
     rcases Int.lt_or_le b (bn w i).Night with h|h
     · exact .inr ⟨h3,h,h5⟩
     · exact .inl ⟨h3,h4,h⟩
   · rintro (⟨h3,h4,h5⟩|⟨h3,h4,h5⟩)
     · exact ⟨h3,h4,by omega⟩
     · exact ⟨h3,by omega,h5⟩
 · simp only [zkp,Bool.and_eq_true,decide_eq_true_eq] at h
   omega
structure OkBy (w:Wear) (known m:Int) (S:List mantle_sight) (x:Int):Prop where
 range:0≤x∧x≤1000000
 good:∀ s∈S,s.bad=false→zeV w known m (-1) s.night≤x
 bad:∀ s∈S,s.bad=true→x<zcA w known m (-1) s.night
 two:∀ s∈S,∀ t∈S,s.bad=false→t.bad=true→s.night<t.night∧0<zcA w known m s.night t.night
def zhK (w:Wear) (known m g b:Int):Range:=
 if g ≠ -1∧b ≠ -1∧(b≤g∨zcA w known m g b=0) then ⟨1,0⟩ else ⟨if g ≠ -1 then zeV w known m (-1) g else 0,if b ≠ -1 then min 1000000 (zcA w known m (-1) b - 1) else 1000000⟩
def inR (r:Range) (x:Int):Prop:=r.Lo≤x∧x≤r.Hi
theorem zmN {w:Wear} (V:WearOk w) {known:Int} {m:Nat} {S:List mantle_sight} {c:mantle_coat} (hc:CoatOk w known m S c) (hn:∀ x∈S,0≤x.night) {g b:Int} (he:Ends S g b):zbk c=some (zhK w known m g b):=by
 unfold zbk
 obtain ⟨r,e,hr⟩:=zoM c (by rw [hc.sights];exact hn)
 rw [hc.sights] at hr
 obtain ⟨e1,e2⟩:=hr.uniq he
 have er:r=(g,b):=Prod.ext e1 e2
 subst er
 refine Wp.eq (zat e ?_)
 have hb:=zhA V known m
 unfold zhK
 refine zd6 (fun s=>s=if g ≠ -1 then zeV w known m (-1) g else 0) (fun K hK=>?_) (fun s hs=>?_)
 · refine zeW (fun h=>zat (zkS V hc _ _) (hK _ ?_)) (fun h=>hK _ ?_)
   · rw [if_pos h]
   · rw [if_neg (by omega)]
 subst hs
 refine zd6 (fun s=>s=if b ≠ -1 then min 1000000 (zcA w known m (-1) b - 1) else 1000000) (fun K hK=>?_) (fun s hs=>?_)
 · refine zeW (fun h=>zat (zkS V hc _ _) (zaw (by have:=hb (-1) b;simp only;omega) (hK _ ?_))) (fun h=>hK _ ?_)
   · rw [if_pos h]
   · rw [if_neg (by omega)]
 subst hs
 refine zjw (Q:=fun y=>y=⟨zeV w known m g b,zcA w known m g b⟩) (fun _=>⟨_,zkS V hc _ _,rfl⟩) (fun y hy=>?_)
 simp only [Bool.and_eq_true,Bool.not_eq_true',decide_eq_false_iff_not] at hy
 refine zbQ (fun h=>zar ?_) (fun h=>zar ?_)
 · simp only [Bool.and_eq_true,Bool.or_eq_true,Bool.not_eq_true',decide_eq_false_iff_not,decide_eq_true_eq] at h
   obtain ⟨⟨h1,h2⟩,h3⟩:=h
   have:b≤g∨zcA w known m g b=0:=by
    rcases h3 with h3|h3
    · exact .inl h3
    · by_cases h4:b≤g
      · exact .inl h4
      · rw [hy ⟨⟨h1,h2⟩,h4⟩] at h3;exact .inr h3
   rw [if_pos ⟨h1,h2,this⟩]
 · have:¬ (g ≠ -1∧b ≠ -1∧(b≤g∨zcA w known m g b=0)):=by
    rintro ⟨h1,h2,h3⟩
    have h5:(((!decide (g=(-1))) && (!decide (b=(-1)))) && ((decide (b≤g)) || (decide (y.Hi=0))))=true:=by
     simp only [Bool.and_eq_true,Bool.or_eq_true,Bool.not_eq_true',decide_eq_false_iff_not,decide_eq_true_eq]
     refine ⟨⟨h1,h2⟩,?_⟩
     by_cases h4:b≤g
     · exact .inl h4
     · rw [hy ⟨⟨h1,h2⟩,h4⟩];exact .inr (h3.resolve_left h4)
    rw [h5] at h;cases h
   rw [if_neg this]
theorem ziX {w:Wear} (V:WearOk w) {known m:Int} {S:List mantle_sight} (hn:∀ x∈S,0≤x.night) {g b:Int} (he:Ends S g b) (x:Int):inR (zhK w known m g b) x↔OkBy w known m S x:=by
 have hb:=zhA V known m
 unfold zhK
 by_cases hc:g ≠ -1∧b ≠ -1∧(b≤g∨zcA w known m g b=0)
 · rw [if_pos hc]
   obtain ⟨c1,c2,c3⟩:=hc
   refine ⟨fun h=>by have:=h.1;have:=h.2;simp only at *;omega,fun h=>?_⟩
   obtain ⟨s,hs,s1,s2⟩:=he.good.resolve_left c1
   obtain ⟨t,ht,t1,t2⟩:=he.bad.resolve_left c2
   have:=h.two s hs t ht s1 t1
   rw [s2,t2] at this
   omega
 · rw [if_neg hc]
   unfold inR
   simp only
   constructor
   · rintro ⟨h1,h2⟩
     refine ⟨?_,fun s hs sb=>?_,fun s hs sb=>?_,fun s hs t ht sb tb=>?_⟩
     · have:=hb (-1) g;have:=hb (-1) b
       constructor
       · split at h1 <;> omega
       · split at h2 <;> omega
     · have a:=he.top s hs sb
       have a0:=hn s hs
       rw [if_pos (by omega)] at h1
       have:=znK V (known:=known) (m:=m) (f:=-1) a
       omega
     · have a:=he.low s hs sb
       rw [if_pos a.1] at h2
       have:=zem V (known:=known) (m:=m) (f:=-1) a.2 (Int.le_refl _)
       omega
     · have a:=he.top s hs sb
       have a0:=hn s hs
       have a2:=he.low t ht tb
       have:¬ (b≤g∨zcA w known m g b=0):=fun h=>hc ⟨by omega,a2.1,h⟩
       have h3:0<zcA w known m g b:=by have:=hb g b;omega
       have h4:=zem V (known:=known) (m:=m) (f:=g) (f':=s.night) a2.2 a
       exact ⟨by omega,by omega⟩
   · intro h
     have hr:=h.range
     constructor
     · by_cases c1:g ≠ -1
       · rw [if_pos c1]
         obtain ⟨s,hs,s1,s2⟩:=he.good.resolve_left c1
         rw [← s2];exact h.good s hs s1
       · rw [if_neg c1];exact hr.1
     · by_cases c2:b ≠ -1
       · rw [if_pos c2]
         obtain ⟨t,ht,t1,t2⟩:=he.bad.resolve_left c2
         have:=h.bad t ht t1
         rw [t2] at this;omega
       · rw [if_neg c2];exact hr.2
theorem zoN (S:List mantle_sight) (hn:∀ x∈S,0≤x.night):∃ g b,Ends S g b:=by
 obtain ⟨r,_,h⟩:=zoM ⟨zoR,[],S⟩ hn
 exact ⟨_,_,h⟩
theorem znN {c:mantle_coat} {w:Wear} {known:Int} {m:Nat} {S:List mantle_sight} (hc:CoatOk w known m S c) (x:mantle_sight) (hl:S.length≤1000000):Wp (zbB c x) (fun r=>CoatOk w known m (S++[x]) r):=by
 unfold zbB zbL
 have e:=hc.sights
 refine wp_bind (Q:=fun y=>y=S) (zgq (by rw [e];simp [-List.getD_eq_getElem?_getD];omega) (zar (by rw [e];simp [-List.getD_eq_getElem?_getD]))) (fun y hy=>?_)
 subst hy
 exact zgq (by simp [-List.getD_eq_getElem?_getD];omega) (zar ⟨hc.wear,hc.burns,rfl⟩)
end Go.Sp
end
/- Plain laws, mantle: the closet that hang fills. No program in sight. -/
section
set_option linter.all false
namespace Go.Sp
open Go.Av
set_option maxRecDepth 100000
def ba (w:Wear) (i:Nat):Batch:=w.Batches.getD i default
def bat (w:Wear) (i:Nat):Int:=zdt w (mt w i).Batch
theorem zj0 {w:Wear} (V:WearOk w) {i:Nat} (hi:i<w.Mantles.length):0≤bat w i∧bat w i<(w.Batches.length:Int):=by
 refine ⟨?_,zlF w _⟩
 rcases Int.lt_or_le (bat w i) 0 with h|h
 · exact absurd (V.has i hi) (zfa.1 h)
 · exact h
structure Hung (w:Wear) (known:Int) (S:Nat→List mantle_sight) (c:mantle_closet):Prop where
 wear:c.w=w
 asof:c.known=known
 coats:∀ i:Nat,i<w.Mantles.length→∃ x,c.coats.get (i:Int)=some x∧CoatOk w known i (S i) x
 len:c.lives.length=w.Batches.length
 lives:∀ b:Nat,b<w.Batches.length→∀ x,inR (c.lives.getD b default) x↔inR (ba w b).Life x∧∀ i,i<w.Mantles.length→bat w i=(b:Int)→OkBy w known i (S i) x
 nights:∀ i,i<w.Mantles.length→∀ s∈S i,0≤s.night
 few:∀ i,i<w.Mantles.length→(S i).length≤1000
def lk (l:List Look) (i:Nat):Look:=l.getD i default
def zca (w:Wear) (known:Int) (l:List Look) (m:Nat):Nat→List mantle_sight
 | 0=>[]
 | n+1=>if fit w (lk l n).Lamp (lk l n).Night known=(m:Int)∧zau (lk l n).Known (lk l n).Until known=true then zca w known l m n++[⟨(lk l n).Night,(lk l n).Bad⟩] else zca w known l m n
def sights (w:Wear) (known:Int) (l:List Look) (m:Nat):List mantle_sight:=zca w known l m l.length
theorem zdK {w:Wear} {known:Int} {l:List Look} {m:Nat} {s:mantle_sight}:∀ {n:Nat},s∈zca w known l m n↔∃ i,i<n∧fit w (lk l i).Lamp (lk l i).Night known=(m:Int)∧zau (lk l i).Known (lk l i).Until known=true∧s=⟨(lk l i).Night,(lk l i).Bad⟩
 | 0=>⟨fun h=>(by cases h),fun ⟨i,hi,_⟩=>absurd hi (Nat.not_lt_zero _)⟩
 | n+1=>by
  unfold zca
  by_cases hc:fit w (lk l n).Lamp (lk l n).Night known=(m:Int)∧zau (lk l n).Known (lk l n).Until known=true
  · rw [if_pos hc,List.mem_append,List.mem_singleton,zdK]
    constructor
    · rintro (⟨i,hi,h⟩|h)
      · exact ⟨i,by omega,h⟩
      · exact ⟨n,by omega,hc.1,hc.2,h⟩
    · rintro ⟨i,hi,h⟩
      by_cases e:i=n
      · subst e;exact .inr h.2.2
      · exact .inl ⟨i,by omega,h⟩
  · rw [if_neg hc,zdK]
    constructor
    · rintro ⟨i,hi,h⟩;exact ⟨i,by omega,h⟩
    · rintro ⟨i,hi,h⟩
      by_cases e:i=n
      · subst e;exact absurd ⟨h.1,h.2.1⟩ hc
      · exact ⟨i,by omega,h⟩
theorem zgU {w:Wear} {known:Int} {l:List Look} {m:Nat}:∀ n,(zca w known l m n).length≤n
 | 0=>by simp [-List.getD_eq_getElem?_getD,zca]
 | n+1=>by
  unfold zca
  have:=zgU (w:=w) (known:=known) (l:=l) (m:=m) n
  split
  · simp [-List.getD_eq_getElem?_getD];omega
  · omega
theorem zkQ {a b:Range} {x:Int}:inR (zaW a b) x↔inR a x∧inR b x:=by
 unfold zaW inR;simp only;omega
theorem zqr (c:mantle_closet) (hl:c.w.Mantles.length≤60):zbG c=some ((List.range' 0 c.w.Mantles.length).map (fun i:Nat=>((i:Int),(c.coats.get (i:Int)).getD default))):=by
 unfold zbG
 rw [zfh (by omega),znF (fun _=>true) (fun i:Nat=>((i:Int),(c.coats.get (i:Int)).getD default)) (fun i r hi=>rfl)]
 rw [List.filter_eq_self.2 (fun _ _=>rfl)]
theorem zp6 {A S R:Type} {body:A→S→(S→Option R)→Option R} {ex:S→Option R} {s0:S} {P:R→Prop} (n:Nat) (f:Nat→A) (Inv:Nat→S→Prop) (h0:Inv 0 s0)
 (hb:∀ (j:Nat) s (K:S→Option R),j<n→Inv j s→(∀ s',Inv (j+1) s'→Wp (K s') P)→Wp (body (f j) s K) P) (he:∀ s,Inv n s→Wp (ex s) P):Wp (zic body ex ((List.range' 0 n).map f) s0) P:=by
 have go:∀ (m j:Nat),j+m=n→∀ s,Inv j s→Wp (zic body ex ((List.range' j m).map f) s) P:=by
  intro m
  induction m with
  | zero=>intro j hj s hs;have e:j=n:=(by omega);subst e;exact he s hs
  | succ m ih=>
   intro j hj s hs
   rw [List.range'_succ,List.map_cons]
   exact hb j s _ (by omega) hs (fun s' h'=>ih (j+1) (by omega) s' h')
 exact go n 0 (by omega) s0 h0
theorem zoa {c:mantle_closet} {b:Nat} (hb:b<c.lives.length) (r:Range):zbl c (b:Int) r=some ⟨c.w,c.known,c.coats,c.lives.set b (zaW (c.lives.getD b default) r)⟩:=by
 unfold zbl
 rw [zfh (by omega),zfh (by omega)]
 rfl
theorem Mp.zks {T:Type} (m:Mp T) (k j:Int) (x:T):(m.set k x).get j=if j=k then some x else m.get j:=rfl
theorem zos {w:Wear} (V:WearOk w) {fuel:Nat} (hf:1000≤fuel) {l:List Look} (hl:l.length≤1000) (hn:∀ x∈l,0≤x.Night) (known:Int):Wp (zcw fuel w l known) (fun c=>Hung w known (sights w known l) c):=by
 have nm:=V.nm;have nb:=V.nb
 unfold zcw
 refine wp_bind (zpP V hf known) (fun y1 hy1=>zaA (by omega) ?_)
 refine zeF (fun i s=>∀ j:Nat,j<i→∃ x,s.get (j:Int)=some x∧CoatOk w known j [] x) (fun j hj=>absurd hj (Nat.not_lt_zero _)) (fun i s K hi hI hK=>hK _ (fun j hj=>?_)) (fun s3 h3=>?_)
 · by_cases e:j=i
   · subst e
     exact ⟨_,by rw [Mp.zks,if_pos rfl],rfl,hy1 _,rfl⟩
   · rw [Mp.zks,if_neg (by omega)]
     exact hI j (by omega)
 refine zeF (fun i s=>∀ j:Nat,j<w.Mantles.length→∃ x,s.get (j:Int)=some x∧CoatOk w known j (zca w known l j i) x) h3 (fun i s K hi hI hK=>?_) (fun s5 h5=>?_)
 · refine zat (zi9 w _ _ known) ?_
   have hfl:=zlr w (l.getD i default).Lamp (l.getD i default).Night known
   refine zbQ (fun h=>?_) (fun h=>hK _ (fun j hj=>?_))
   · simp only [Bool.and_eq_true,decide_eq_true_eq] at h
     obtain ⟨m,hm⟩:∃ m:Nat,fit w (l.getD i default).Lamp (l.getD i default).Night known=(m:Int):=⟨_,(Int.toNat_of_nonneg h.1).symm⟩
     rw [hm] at hfl ⊢
     obtain ⟨x,e,hx⟩:=hI m (by omega)
     rw [e]
     refine wp_bind (znN hx _ (by have:=zgU (w:=w) (known:=known) (l:=l) (m:=m) i;omega)) (fun y hy=>hK _ (fun j hj=>?_))
     by_cases ej:j=m
     · subst ej
       refine ⟨y,by rw [Mp.zks,if_pos rfl],?_⟩
       unfold zca
       rw [if_pos ⟨hm,h.2⟩]
       exact hy
     · rw [Mp.zks,if_neg (by omega)]
       unfold zca
       rw [if_neg (fun h'=>ej (by have:=h'.1.symm.trans hm;omega))]
       exact hI j hj
   · unfold zca
     rw [if_neg (fun h'=>?_)]
     · exact hI j hj
     · rw [Bool.and_eq_false_iff,decide_eq_false_iff_not] at h
       rcases h with h|h
       · exact h (by have:=h'.1;unfold lk at this;omega)
       · have:=h'.2;unfold lk at this;rw [this] at h;cases h
 refine zeF (fun i s=>s.length=i∧∀ b,b<i→s.getD b default=(ba w b).Life) ⟨rfl,fun b hb=>absurd hb (Nat.not_lt_zero _)⟩ (fun i s K hi hI hK=>zgq (by simp [-List.getD_eq_getElem?_getD];omega) (hK _ ⟨by simp [-List.getD_eq_getElem?_getD,hI.1],fun b hb=>?_⟩)) (fun s12 h12=>?_)
 · rw [zow]
   by_cases e:b=s.length
   · rw [if_pos e,e,hI.1];rfl
   · rw [if_neg e];exact hI.2 b (by omega)
 refine zat (zqr _ nm) ?_
 refine zp6 w.Mantles.length _ (fun j s=>s.length=w.Batches.length∧∀ b:Nat,b<w.Batches.length→∀ x,inR (s.getD b default) x↔inR (ba w b).Life x∧∀ i,i<j→bat w i=(b:Int)→OkBy w known i (sights w known l i) x)
  ⟨h12.1,fun b hb x=>by rw [h12.2 b hb];exact ⟨fun h=>⟨h,fun i hi=>absurd hi (Nat.not_lt_zero _)⟩,fun h=>h.1⟩⟩ (fun j s K hj hI hK=>?_) (fun s hs=>zar ?_)
 · obtain ⟨x,e,hx⟩:=h5 j hj
   have hsn:∀ y∈sights w known l j,0≤y.night:=fun y hy=>by
    obtain ⟨i,hi,_,_,e⟩:=zdK.1 hy
    rw [e];exact hn _ (zcO hi)
   obtain ⟨g,b,he⟩:=zoN (sights w known l j) hsn
   refine zaA (by omega) (zat (zh2 w _) ?_)
   simp only [Int.toNat_natCast]
   have hbt:=zj0 V hj
   have ebt:zdt w (w.Mantles.getD j default).Batch=bat w j:=rfl
   rw [e,ebt]
   obtain ⟨q,hq⟩:∃ q:Nat,bat w j=(q:Int):=⟨_,(Int.toNat_of_nonneg hbt.1).symm⟩
   rw [hq] at hbt ⊢
   refine zat (zmN V hx hsn he) (zat (zoa (c:=⟨w,known,s5,s⟩) (by simp only;omega) _) (zaA (by simp [-List.getD_eq_getElem?_getD]) (hK _ ⟨by simp [-List.getD_eq_getElem?_getD,hI.1],fun b' hb' y=>?_⟩)))
   have hlm:=ziX V hsn he y (known:=known) (m:=(j:Int))
   simp only
   rw [zpB _ _ _ _ _ (by omega)]
   by_cases eb:b'=q
   · subst eb
     rw [if_pos rfl,zkQ,hI.2 b' hb',hlm]
     constructor
     · rintro ⟨⟨a1,a2⟩,a3⟩
       refine ⟨a1,fun i hi hbi=>?_⟩
       by_cases ei:i=j
       · rw [ei];exact a3
       · exact a2 i (by omega) hbi
     · rintro ⟨a1,a2⟩
       exact ⟨⟨a1,fun i hi hbi=>a2 i (by omega) hbi⟩,a2 j (by omega) hq⟩
   · rw [if_neg eb,hI.2 b' hb']
     constructor
     · rintro ⟨a1,a2⟩
       refine ⟨a1,fun i hi hbi=>?_⟩
       by_cases ei:i=j
       · rw [ei,hq] at hbi;omega
       · exact a2 i (by omega) hbi
     · rintro ⟨a1,a2⟩
       exact ⟨a1,fun i hi hbi=>a2 i (by omega) hbi⟩
 · refine ⟨rfl,rfl,h5,hs.1,hs.2,fun i hi y hy=>?_,fun i hi=>?_⟩
   · obtain ⟨k,hk,_,_,e⟩:=zdK.1 hy
     rw [e];exact hn _ (zcO hk)
   · exact Nat.le_trans (zgU _) hl
def zgo (w:Wear) (known:Int) (S:Nat→List mantle_sight):Prop:=∀ b:Nat,b<w.Batches.length→∃ x,inR (ba w b).Life x∧∀ i,i<w.Mantles.length→bat w i=(b:Int)→OkBy w known i (S i) x
theorem znv {w:Wear} {known:Int} {S:Nat→List mantle_sight} {c:mantle_closet} (h:Hung w known S c):Wp (zaQ c) (fun r=>r=true↔zgo w known S):=by
 unfold zaQ
 refine zat (show zbE c.lives _=_ from zeH (q:=zaS) (fun x=>rfl) _) (zar ?_)
 rw [Bool.not_eq_true',List.any_eq_false]
 constructor
 · intro h1 b hb
   have h2:=h1 _ (zcO (l:=c.lives) (i:=b) (by rw [h.len];exact hb))
   have h3:(c.lives.getD b default).Lo≤(c.lives.getD b default).Hi:=by
    simp only [zaS,decide_eq_true_eq] at h2;omega
   exact ⟨_,(h.lives b hb _).1 ⟨Int.le_refl _,h3⟩⟩
 · intro h1 r hr
   obtain ⟨b,hb,rfl⟩:=zix hr
   obtain ⟨x,hx⟩:=h1 b (by rw [← h.len];exact hb)
   have:=(h.lives b (by rw [← h.len];exact hb) x).2 hx
   unfold inR at this
   simp only [zaS,decide_eq_true_eq];omega
end Go.Sp
end
/- Plain laws, mantle: whether a mantle is bad. No program in sight. -/
section
set_option linter.all false
namespace Go.Sp
open Go.Av
set_option maxRecDepth 100000
def zgN (w:Wear) (known:Int) (S:Nat→List mantle_sight) (m:Nat) (night:Int) (bad:Bool):Prop:=
 ∃ x,(inR (ba w (bat w m).toNat).Life x∧∀ i,i<w.Mantles.length→bat w i=bat w m→OkBy w known i (S i) x)∧OkBy w known m (S m++[⟨night,bad⟩]) x
open Classical in
noncomputable def stateR (w:Wear) (known:Int) (S:Nat→List mantle_sight) (m:Nat) (night:Int):Int:=
 if ¬ zgN w known S m night true then 0 else if ¬ zgN w known S m night false then 1 else 2
theorem zpR {w:Wear} {known:Int} {S:Nat→List mantle_sight} {c:mantle_closet} (h:Hung w known S c) {m:Nat} (hm:m<w.Mantles.length):za5 c (m:Int)=some (bat w m):=by
 unfold za5
 rw [h.wear,zfh (by omega)]
 refine Wp.eq (zat (zh2 w _) (zar ?_))
 rfl
theorem zp3 {w:Wear} (V:WearOk w) {known:Int} {S:Nat→List mantle_sight} {c:mantle_closet} (h:Hung w known S c) {m:Nat} (hm:m<w.Mantles.length) {night:Int} (hn:0≤night) (bad:Bool) :
 Wp (zbM c (m:Int) night bad) (fun r=>∀ x,inR r x↔(inR (ba w (bat w m).toNat).Life x∧∀ i,i<w.Mantles.length→bat w i=bat w m→OkBy w known i (S i) x)∧OkBy w known m (S m++[⟨night,bad⟩]) x):=by
 unfold zbM
 have hb:=zj0 V hm
 obtain ⟨x,e,hx⟩:=h.coats m hm
 obtain ⟨q,hq⟩:∃ q:Nat,bat w m=(q:Int):=⟨_,(Int.toNat_of_nonneg hb.1).symm⟩
 refine zat (zpR h hm) ?_
 rw [hq] at hb ⊢
 refine zaA (by rw [h.len];omega) ?_
 rw [e]
 refine wp_bind (znN hx _ (by have:=h.few m hm;omega)) (fun y hy=>?_)
 have hsn:∀ s∈S m++[⟨night,bad⟩],0≤s.night:=fun s hs=>by
  rcases List.mem_append.1 hs with hs|hs
  · exact h.nights m hm s hs
  · rw [List.mem_singleton] at hs;subst hs;exact hn
 obtain ⟨g,b,he⟩:=zoN _ hsn
 refine zat (zmN V hy hsn he) (zar (fun z=>?_))
 rw [zkQ,ziX V hsn he,Int.toNat_natCast,h.lives q (by omega)]
theorem zmJ {r:Range}:zaS r=true↔∀ x,¬ inR r x:=by
 unfold zaS inR
 rw [decide_eq_true_eq]
 exact ⟨fun h x hx=>by omega,fun h=>by have:=h r.Lo;omega⟩
theorem zpb {w:Wear} (V:WearOk w) {known:Int} {S:Nat→List mantle_sight} {c:mantle_closet} (h:Hung w known S c) {m:Nat} (hm:m<w.Mantles.length) {night:Int} (hn:0≤night):zaT c (m:Int) night=some (stateR w known S m night):=by
 unfold zaT
 refine Wp.eq (wp_bind (zp3 V h hm hn true) (fun y1 h1=>?_))
 have e1:zaS y1=true↔¬ zgN w known S m night true:=by
  rw [zmJ]
  exact ⟨fun k ⟨x,hx⟩=>k x ((h1 x).2 hx),fun k x hx=>k ⟨x,(h1 x).1 hx⟩⟩
 unfold stateR
 refine zbQ (fun hb=>zar ?_) (fun hb=>wp_bind (zp3 V h hm hn false) (fun y4 h4=>?_))
 · rw [if_pos (e1.1 hb)]
 have c1:¬ ¬ zgN w known S m night true:=fun k=>by rw [e1.2 k] at hb;cases hb
 rw [if_neg c1]
 have e4:zaS y4=true↔¬ zgN w known S m night false:=by
  rw [zmJ]
  exact ⟨fun k ⟨x,hx⟩=>k x ((h4 x).2 hx),fun k x hx=>k ⟨x,(h4 x).1 hx⟩⟩
 refine zbQ (fun hb=>zar ?_) (fun hb=>zar ?_)
 · rw [if_pos (e4.1 hb)]
 · rw [if_neg (fun k=>by rw [e4.2 k] at hb;cases hb)]
def zbY (n:Int):Prop:=0≤n∧n≤100000
instance (n:Int):Decidable (zbY n):=inferInstanceAs (Decidable (_∧_))
theorem zi4 {n:Int}:zaI n=true↔zbY n:=by simp [-List.getD_eq_getElem?_getD,zaI,zaH,zbY]
theorem zh9 {n:Int}:zav n=true↔zbY n:=by simp [-List.getD_eq_getElem?_getD,zav,zan,zbY]
theorem zn8 {w:Wear} (V:WearOk w) {l:List Int} (h:∀ n∈l,zbY n):zbU w l=some 0:=by
 unfold zbU
 refine Wp.eq (zat (ziV V) (zbs (by simp [-List.getD_eq_getElem?_getD]) (zat (show zbh l _=_ from zeH (q:=zbi) (fun x=>rfl) _) ?_)))
 refine zbs ?_ (zar rfl)
 rw [List.any_eq_false]
 intro n hn
 simp [-List.getD_eq_getElem?_getD,zbi,zi4.2 (h n hn)]
theorem znp {w:Wear} (V:WearOk w) {l:List Int} (h:¬ ∀ n∈l,zbY n):zbU w l=some 6:=by
 unfold zbU
 refine Wp.eq (zat (ziV V) (zbs (by simp [-List.getD_eq_getElem?_getD]) (zat (show zbh l _=_ from zeH (q:=zbi) (fun x=>rfl) _) ?_)))
 refine zbP ?_ (zar rfl)
 rw [List.any_eq_true]
 refine Classical.byContradiction (fun k=>h (fun n hn=>?_))
 refine Classical.byContradiction (fun k2=>k ⟨n,hn,?_⟩)
 unfold zbi
 cases h3:zaI n with
 | false=>rfl
 | true=>exact absurd (zi4.1 h3) k2
theorem zhL {w:Wear} (hf:Fits w) (V:¬ WearOk w) (lamp night known:Int):zbV w lamp night known=some (0,64):=by
 unfold zbV
 exact Wp.eq (zat (zns hf V) (zbP (by simp [-List.getD_eq_getElem?_getD]) (zar rfl)))
def za2 (w:Wear) (lamp night known:Int):Int:=if ¬ (1≤lamp∧lamp≤999) then 1 else if ¬ (zbY night∧zbY known) then 6 else if fit w lamp night known<0 then 66 else 0
theorem zi0 {w:Wear} {lamp night known:Int} (h:¬ (1≤lamp∧lamp≤999)):za2 w lamp night known=1:=by unfold za2;exact if_pos h
theorem ziZ {w:Wear} {lamp night known:Int} (h:1≤lamp∧lamp≤999) (h2:¬ (zbY night∧zbY known)):za2 w lamp night known=6:=by
 unfold za2
 exact (if_neg (fun k=>k h)).trans (if_pos h2)
theorem zhM {w:Wear} {lamp night known:Int} (h:1≤lamp∧lamp≤999) (h2:zbY night∧zbY known) (h3:fit w lamp night known<0):za2 w lamp night known=66:=by
 unfold za2
 exact (if_neg (fun k=>k h)).trans ((if_neg (fun k=>k h2)).trans (if_pos h3))
theorem zle {w:Wear} {lamp night known:Int} (h:1≤lamp∧lamp≤999) (h2:zbY night∧zbY known) (h3:¬ fit w lamp night known<0):za2 w lamp night known=0:=by
 unfold za2
 exact (if_neg (fun k=>k h)).trans ((if_neg (fun k=>k h2)).trans (if_neg h3))
theorem ziY {w:Wear} (V:WearOk w) (lamp night known:Int):zbV w lamp night known=some (if za2 w lamp night known=0 then fit w lamp night known else 0,za2 w lamp night known):=by
 unfold zbV
 refine Wp.eq (zat (ziV V) (zbs (by simp [-List.getD_eq_getElem?_getD]) ?_))
 have e:(!(zaG lamp))=decide (¬ (1≤lamp∧lamp≤999)):=by
  rw [Bool.eq_iff_iff];simp [-List.getD_eq_getElem?_getD,zaG,zaH]
 rw [e]
 refine zbZ (fun h=>zar ?_) (fun h=>?_)
 · rw [zi0 h];rfl
 have h:=Classical.not_not.1 h
 by_cases hn:zbY night∧zbY known
 · refine zat (zn8 V (fun n hn'=>by
    simp only [List.mem_cons,List.not_mem_nil,or_false] at hn'
    rcases hn' with rfl|rfl
    · exact hn.1
    · exact hn.2)) (zbs (by simp [-List.getD_eq_getElem?_getD]) (zat (zi9 w _ _ _) ?_))
   refine zbZ (fun h2=>zar ?_) (fun h2=>zar ?_)
   · rw [zhM h hn h2];rfl
   · rw [zle h hn h2];rfl
 · rw [ziZ h hn]
   exact zat (znp V (fun k=>hn ⟨k night (by simp [-List.getD_eq_getElem?_getD]),k known (by simp [-List.getD_eq_getElem?_getD])⟩)) (zbP (by simp [-List.getD_eq_getElem?_getD]) (zar rfl))
theorem zd1 {w:Wear} {lamp night known:Int} (h:za2 w lamp night known=0):(1≤lamp∧lamp≤999)∧zbY night∧zbY known∧0≤fit w lamp night known:=by
 by_cases h1:1≤lamp∧lamp≤999
 · by_cases h2:zbY night∧zbY known
   · by_cases h3:fit w lamp night known<0
     · rw [zhM h1 h2 h3] at h;omega
     · exact ⟨h1,h2.1,h2.2,by omega⟩
   · rw [ziZ h1 h2] at h;omega
 · rw [zi0 h1] at h;omega
theorem zhN {w:Wear} {fuel:Nat} (hfu:100<fuel) (V:¬ WearOk w) (n:gasolierref06_When):zaU fuel w n=some (zm4,64):=by
 unfold zaU
 exact Wp.eq (zat (zng hfu V) (zbP (by simp [-List.getD_eq_getElem?_getD]) (zar rfl)))
theorem zi1 {w:Wear} {fuel:Nat} (hfu:100<fuel) (V:WearOk w) (lamp night known:Int):zaU fuel w ⟨lamp,night,known⟩=some (if za2 w lamp night known=0 then mt w (fit w lamp night known).toNat else zm4,za2 w lamp night known):=by
 have nm:=V.nm
 unfold zaU
 refine Wp.eq (zat (zn3 hfu V) (zbs (by simp [-List.getD_eq_getElem?_getD]) ?_))
 have e:(!(zan lamp 1 999))=decide (¬ (1≤lamp∧lamp≤999)):=by
  rw [Bool.eq_iff_iff];simp [-List.getD_eq_getElem?_getD,zan]
 simp only [e]
 refine zbZ (fun h=>zar ?_) (fun h=>?_)
 · rw [zi0 h];rfl
 have h:=Classical.not_not.1 h
 have e2:((!(zav night)) || (!(zav known)))=decide (¬ (zbY night∧zbY known)):=by
  rw [Bool.eq_iff_iff,decide_eq_true_eq,Bool.or_eq_true,Bool.not_eq_true',Bool.not_eq_true',← Bool.not_eq_true,← Bool.not_eq_true,zh9,zh9]
  constructor
  · rintro (h|h) ⟨h1,h2⟩
    · exact h h1
    · exact h h2
  · intro h
    by_cases h1:zbY night
    · exact .inr (fun h2=>h ⟨h1,h2⟩)
    · exact .inl h1
 rw [e2]
 refine zbZ (fun h2=>zar ?_) (fun h2=>?_)
 · rw [ziZ h h2];rfl
 have h2:=Classical.not_not.1 h2
 refine zat (at_eq (by omega) nm _ _ _) ?_
 unfold atR
 by_cases h3:fit w lamp night known<0
 · rw [if_pos h3,zhM h h2 h3]
   exact zbP (by simp [-List.getD_eq_getElem?_getD]) (zar rfl)
 · rw [if_neg h3,zle h h2 h3]
   exact zbs (by simp [-List.getD_eq_getElem?_getD]) (zar rfl)
end Go.Sp
end
/- Plain laws, mantle: the document's lives and states. No program in sight. -/
section
set_option linter.all false
namespace Go.Sp
open Go.Av
set_option maxRecDepth 100000
structure ToldL (known:Int) (L:List Look):Prop where
 few:L.length≤900
 night:∀ l∈L,0≤l.Night
 cnt:∀ l∈L,zau l.Known l.Until known=true
def tells (w:Wear) (known:Int) (l:Look):Bool:=decide (0≤fit w l.Lamp l.Night known) && zau l.Known l.Until known
def znb (w:Wear) (known:Int):List Look:=w.Looks.filter (tells w known)
theorem atR_2 {w:Wear} {lamp night known:Int}:(atR w lamp night known).2=decide (0≤fit w lamp night known):=by
 unfold atR
 by_cases h:fit w lamp night known<0
 · rw [if_pos h];simp [-List.getD_eq_getElem?_getD];omega
 · rw [if_neg h];simp [-List.getD_eq_getElem?_getD];omega
theorem look_ok {w:Wear} (V:WearOk w) {l:Look} (h:l∈w.Looks):zju l:=V.lo.ok h
theorem zjI {w:Wear} (V:WearOk w) (known:Int):ToldL known (znb w known):=by
 refine ⟨by have:=V.nl;have:=List.length_filter_le (tells w known) w.Looks;unfold znb;omega,fun l hl=>?_,fun l hl=>?_⟩
 · exact (look_ok V (List.mem_filter.1 hl).1).night.1
 · have:=(List.mem_filter.1 hl).2
   unfold tells at this
   exact (Bool.and_eq_true _ _▸this).2
theorem znY {w:Wear} (V:WearOk w) {fuel:Nat} (hf:1000≤fuel) (known:Int):zb6 fuel w known=some (znb w known):=by
 have nl:=V.nl;have nm:=V.nm
 unfold zb6
 refine Wp.eq (zkX w.Looks.length (by omega) (fun i s=>s=(w.Looks.take i).filter (tells w known)) rfl (fun i s K hi hI hK=>?_))
 by_cases hin:i<w.Looks.length
 · refine zbP (by simp [-List.getD_eq_getElem?_getD];omega) (zaA (by simp only;omega) ?_)
   simp only [Int.toNat_natCast]
   refine zat (at_eq (by omega) nm _ _ known) ?_
   rw [atR_2]
   have e:(decide (0≤fit w (w.Looks.getD i default).Lamp (w.Looks.getD i default).Night known) && zaz (w.Looks.getD i default).Known (w.Looks.getD i default).Until known)=tells w known (w.Looks.getD i default):=rfl
   rw [e]
   have hl:s.length≤i:=by rw [hI];exact Nat.le_trans (List.length_filter_le _ _) (by rw [List.length_take];omega)
   refine zbQ (fun h=>zgq (by simp [-List.getD_eq_getElem?_getD];omega) (zaw (by omega) (hK _ hin ?_))) (fun h=>zaw (by omega) (hK _ hin ?_))
   · rw [zeY hin,List.filter_append,hI];simp [-List.getD_eq_getElem?_getD,h]
   · rw [zeY hin,List.filter_append,hI];simp [-List.getD_eq_getElem?_getD,h]
 · have:i=w.Looks.length:=by omega
   subst this
   exact zbs (by simp [-List.getD_eq_getElem?_getD]) (zar (by rw [hI,List.take_length];rfl))
theorem zp7 {w:Wear} (V:WearOk w) {i j:Nat} (hi:i<w.Mantles.length) (hj:j<w.Mantles.length) (e:(mt w i).Source=(mt w j).Source):i=j:=V.ma.inj hi hj e
theorem zpY {w:Wear} (V:WearOk w) {i j:Nat} (hi:i<w.Batches.length) (hj:j<w.Batches.length) (e:(ba w i).Id=(ba w j).Id):i=j:=V.ba.inj hi hj e
theorem znQ {w:Wear} (V:WearOk w) {fuel:Nat} (hf:1000≤fuel) {known:Int} {L:List Look} (hL:ToldL known L) {m:Nat} (hm:m<w.Mantles.length) :
 Wp (zbN fuel w (mt w m) ⟨L,known⟩) (fun r=>Ends (sights w known L m) r.Good r.Bad):=by
 have nm:=V.nm;have hfew:=hL.few
 unfold zbN
 refine zkX L.length (by omega) (fun i s=>Ends (zca w known L m i) s.Good s.Bad) ⟨fun x hx=>(by cases hx),.inl rfl,fun x hx=>(by cases hx),.inl rfl,(by decide),(by decide)⟩ (fun i s K hi hI hK=>?_)
 by_cases hin':¬ i<L.length
 · have:i=L.length:=by omega
   subst this
   exact zbs (by simp [-List.getD_eq_getElem?_getD]) (zar hI)
 have hin:=Classical.not_not.1 hin'
 refine zbP (by simp [-List.getD_eq_getElem?_getD];omega) ?_
 refine zd6 (fun s'=>Ends (zca w known L m (i+1)) s'.Good s'.Bad) (fun K2 hK2=>?_) (fun s' hs'=>zaw (by omega) (hK _ hin hs'))
 refine zaA (by simp only;omega) ?_
 simp only [Int.toNat_natCast]
 refine zat (at_eq (by omega) nm _ _ known) ?_
 have hln:=hL.night _ (zcO hin)
 have hlc:=hL.cnt _ (zcO hin)
 have e:((!(atR w (L.getD i default).Lamp (L.getD i default).Night known).2) || (!decide ((atR w (L.getD i default).Lamp (L.getD i default).Night known).1.Source=(mt w m).Source))) = !decide (fit w (lk L i).Lamp (lk L i).Night known=(m:Int)):=by
  unfold atR lk
  have hfl:=zlr w (L.getD i default).Lamp (L.getD i default).Night known
  by_cases h:fit w (L.getD i default).Lamp (L.getD i default).Night known<0
  · rw [if_pos h];simp [-List.getD_eq_getElem?_getD];omega
  · rw [if_neg h]
    have:(mt w (fit w (L.getD i default).Lamp (L.getD i default).Night known).toNat).Source=(mt w m).Source↔fit w (L.getD i default).Lamp (L.getD i default).Night known=(m:Int):=by
     refine ⟨fun h2=>?_,fun h2=>by rw [h2];rfl⟩
     have:=zp7 V (by omega) hm h2
     omega
    simp only [this,Bool.not_true,Bool.false_or]
 rw [e]
 unfold zca at hK2
 refine zeW (fun h=>hK2 _ ?_) (fun h=>?_)
 · rw [if_neg (fun k=>h k.1)];exact hI
 rw [if_pos ⟨h,hlc⟩] at hK2
 obtain ⟨x,hx⟩:∃ x,lk L i=x:=⟨_,rfl⟩
 rw [hx] at hK2
 have hx':L.getD i default=x:=hx
 rw [hx'] at hln
 obtain ⟨h1,h2,h3,h4,h5,h6⟩:=hI
 refine zd6 (fun g=>(x.Bad=true→g=s.Good)∧(x.Bad=false→g=max s.Good x.Night)) (fun K3 hK3=>?_) (fun g hg=>?_)
 · refine zbQ (fun hb=>hK3 _ ?_) (fun hb=>hK3 _ ?_)
   · simp only [Bool.and_eq_true,Bool.not_eq_true',decide_eq_true_eq] at hb
     rw [hx'] at hb ⊢
     exact ⟨fun k=>(by rw [hb.1] at k;cases k),fun _=>(by omega)⟩
   · simp only [Bool.and_eq_false_iff,Bool.not_eq_false',decide_eq_false_iff_not] at hb
     rw [hx'] at hb
     exact ⟨fun _=>rfl,fun k=>(by rw [k] at hb;simp [-List.getD_eq_getElem?_getD] at hb;omega)⟩
 have key:∀ b:Int,(x.Bad=false→b=s.Bad)→(x.Bad=true→(s.Bad = -1→b=x.Night)∧(s.Bad ≠ -1→b=min s.Bad x.Night))→Ends (zca w known L m i++[⟨x.Night,x.Bad⟩]) g b:=by
  intro b hb1 hb2
  have hmem:∀ y,y∈zca w known L m i++[⟨x.Night,x.Bad⟩]↔y∈zca w known L m i∨y=⟨x.Night,x.Bad⟩:=fun y=>by simp [-List.getD_eq_getElem?_getD]
  cases hxb:x.Bad with
  | false=>
   have eg:=hg.2 hxb
   have eb:=hb1 hxb
   subst eg;subst eb
   refine ⟨fun y hy hyb=>?_,?_,fun y hy hyb=>?_,?_,by omega,h6⟩
   · rw [hxb] at hmem
     rcases (hmem y).1 hy with hy|rfl
     · have:=h1 y hy hyb;omega
     · simp only;omega
   · rcases Int.le_total s.Good x.Night with hle|hle
     · exact .inr ⟨⟨x.Night,false⟩,by simp [-List.getD_eq_getElem?_getD],rfl,by simp only;omega⟩
     · rcases h2 with e|⟨y,hy,y1,y2⟩
       · exact .inr ⟨⟨x.Night,false⟩,by simp [-List.getD_eq_getElem?_getD],rfl,by simp only;omega⟩
       · exact .inr ⟨y,List.mem_append.2 (.inl hy),y1,by omega⟩
   · rw [hxb] at hmem
     rcases (hmem y).1 hy with hy|rfl
     · exact h3 y hy hyb
     · cases hyb
   · rcases h4 with e|⟨y,hy,y1,y2⟩
     · exact .inl e
     · exact .inr ⟨y,List.mem_append.2 (.inl hy),y1,y2⟩
  | true=>
   have eg:=hg.1 hxb
   have eb:=hb2 hxb
   subst eg
   refine ⟨fun y hy hyb=>?_,?_,fun y hy hyb=>?_,?_,h5,?_⟩
   · rw [hxb] at hmem
     rcases (hmem y).1 hy with hy|rfl
     · exact h1 y hy hyb
     · cases hyb
   · rcases h2 with e|⟨y,hy,y1,y2⟩
     · exact .inl e
     · exact .inr ⟨y,List.mem_append.2 (.inl hy),y1,y2⟩
   · rw [hxb] at hmem
     rcases (hmem y).1 hy with hy|rfl
     · have a:=h3 y hy hyb
       have:=eb.2 a.1
       have:=h6
       omega
     · simp only
       by_cases e:s.Bad = -1
       · have:=eb.1 e;omega
       · have:=eb.2 e;omega
   · by_cases e:s.Bad = -1
     · exact .inr ⟨⟨x.Night,true⟩,by simp [-List.getD_eq_getElem?_getD],rfl,(eb.1 e).symm⟩
     · have eb2:=eb.2 e
       obtain ⟨y,hy,y1,y2⟩:=h4.resolve_left e
       rcases Int.le_total s.Bad x.Night with hle|hle
       · exact .inr ⟨y,List.mem_append.2 (.inl hy),y1,by omega⟩
       · exact .inr ⟨⟨x.Night,true⟩,by simp [-List.getD_eq_getElem?_getD],rfl,by simp only;omega⟩
   · by_cases e:s.Bad = -1
     · have:=eb.1 e;omega
     · have:=eb.2 e;omega
 refine zbQ (fun hb=>hK2 _ (key (L.getD i default).Night (fun k=>?_) (fun k=>?_))) (fun hb=>hK2 _ (key s.Bad (fun k=>rfl) (fun k=>?_)))
 · rw [Bool.and_eq_true] at hb
   have hb1:=hb.1
   rw [hx',k] at hb1;cases hb1
 · simp only [Bool.and_eq_true,Bool.or_eq_true,decide_eq_true_eq] at hb
   rw [hx'] at hb ⊢
   exact ⟨fun _=>rfl,fun _=>by omega⟩
 · simp only [Bool.and_eq_false_iff,Bool.or_eq_false_iff,decide_eq_false_iff_not] at hb
   rw [hx'] at hb
   rcases hb with hb|hb
   · rw [k] at hb;cases hb
   · exact ⟨fun e=>by omega,fun _=>by omega⟩
theorem zhD {w:Wear} {known:Int} {L:List Look} {m:Nat} {s:mantle_sight} (h:s∈sights w known L m):∃ lamp,FitIs w lamp s.night known w.Mantles.length m:=by
 obtain ⟨i,_,h1,_,h3⟩:=zdK.1 h
 refine ⟨(lk L i).Lamp,?_⟩
 rw [h3]
 exact zmY h1
theorem zh7 {w:Wear} {known:Int} {L:List Look} (hL:ToldL known L) {m:Nat} {s:mantle_sight} (h:s∈sights w known L m):0≤s.night:=by
 obtain ⟨i,hi,_,_,h3⟩:=zdK.1 h
 rw [h3];exact hL.night _ (zcO hi)
theorem zmT {w:Wear} (V:WearOk w) {fuel:Nat} (hf:1000≤fuel) {known:Int} {L:List Look} {m:Nat} {g b:Int} (he:Ends (sights w known L m) g b) (h:g ≠ -1):zaM fuel w (mt w m) ⟨g,known⟩=some ⟨zeV w known m (-1) g,zcA w known m (-1) g⟩:=by
 obtain ⟨s,hs,_,e⟩:=he.good.resolve_left h
 obtain ⟨lamp,hf2⟩:=zhD hs
 rw [← e]
 exact zkc V (by omega) hf2
theorem zo1 {w:Wear} (V:WearOk w) {fuel:Nat} (hf:1000≤fuel) {known:Int} {L:List Look} {m:Nat} {g b:Int} (he:Ends (sights w known L m) g b) (h:b ≠ -1):zaM fuel w (mt w m) ⟨b,known⟩=some ⟨zeV w known m (-1) b,zcA w known m (-1) b⟩:=by
 obtain ⟨s,hs,_,e⟩:=he.bad.resolve_left h
 obtain ⟨lamp,hf2⟩:=zhD hs
 rw [← e]
 exact zkc V (by omega) hf2
theorem znZ {w:Wear} (V:WearOk w) {fuel:Nat} (hf:1000≤fuel) {known:Int} {L:List Look} (hL:ToldL known L) {m:Nat} (hm:m<w.Mantles.length) :
 Wp (zb7 fuel w (mt w m) ⟨L,known⟩) (fun r=>∀ x,inR r x↔OkBy w known m (sights w known L m) x):=by
 unfold zb7
 refine wp_bind (znQ V hf hL hm) (fun y1 he=>?_)
 obtain ⟨g,b⟩:=y1
 simp only at he ⊢
 have hb:=zhA V known m
 have h0:=fun x=>ziX V (fun s hs=>zh7 hL hs) he x (known:=known) (m:=(m:Int))
 have g0:=he.g0;have b0:=he.b0
 refine zd6 (fun s=>s.1=(if g ≠ -1 then zeV w known m (-1) g else 0)∧s.2.Hi=if g ≠ -1 then zcA w known m (-1) g else 0) (fun K hK=>?_) (fun s hs=>?_)
 · refine zbZ (fun h=>zat (zmT V hf he (by omega)) (hK _ ⟨?_,?_⟩)) (fun h=>hK _ ⟨?_,?_⟩)
   · rw [if_pos (by omega)]
   · rw [if_pos (by omega)]
   · rw [if_neg (by omega)]
   · rw [if_neg (by omega)]
 obtain ⟨s1,s2⟩:=s
 simp only at hs ⊢
 obtain ⟨e1,e2⟩:=hs
 refine zd6 (fun t=>t=(if b ≠ -1 then zcA w known m (-1) b - 1 else 1000000)∧¬ (g ≠ -1∧b ≠ -1∧(b≤g∨zcA w known m g b=0))) (fun K hK=>?_) (fun t ht=>zar (fun x=>?_))
 · refine zbZ (fun h=>zat (zo1 V hf he (by omega)) (zaw (by have:=hb (-1) b;simp only;omega) ?_)) (fun h=>hK _ ⟨?_,fun k=>?_⟩)
   · refine zbQ (fun h2=>zar (fun x=>?_)) (fun h2=>hK _ ⟨?_,fun k=>?_⟩)
     · simp only [Bool.or_eq_true,decide_eq_true_eq] at h2
       refine ⟨fun h=>by unfold inR at h;simp only at h;omega,fun h=>?_⟩
       have h3:=(h0 x).2 h
       unfold zhK at h3
       by_cases hg:g ≠ -1
       · rw [if_pos hg] at e2
         have hc:b≤g∨zcA w known m g b=0:=by
          rcases h2 with h2|h2
          · exact .inl h2
          · by_cases h4:b≤g
            · exact .inl h4
            · have:=zfz (w:=w) (known:=known) (m:=(m:Int)) (a:=-1) (b:=g) (c:=b) (by omega) (by omega)
              exact .inr (by omega)
         rw [if_pos ⟨hg,by omega,hc⟩] at h3
         exact h3
       · rw [if_neg hg] at e2
         rw [if_neg (fun k=>hg k.1),if_neg hg,if_pos (by omega)] at h3
         unfold inR at h3 ⊢
         simp only at h3 ⊢
         omega
     · rw [if_pos (by omega)]
     · simp only [Bool.or_eq_false_iff,decide_eq_false_iff_not] at h2
       obtain ⟨k1,k2,k3⟩:=k
       rw [if_pos k1] at e2
       rcases k3 with k3|k3
       · exact h2.1 k3
       · have:=zfz (w:=w) (known:=known) (m:=(m:Int)) (a:=-1) (b:=g) (c:=b) (by omega) (by omega)
         omega
   · rw [if_neg (by omega)]
   · omega
 · obtain ⟨t1,t2⟩:=ht
   rw [← h0 x]
   unfold zhK
   rw [if_neg t2]
   unfold inR
   simp only
   rw [e1,t1]
   have:=hb (-1) b
   by_cases hbb:b ≠ -1
   · rw [if_pos hbb,if_pos hbb]
     constructor
     · intro h;omega
     · intro h;omega
   · rw [if_neg hbb,if_neg hbb]
theorem zqi {w:Wear} (V:WearOk w) {q:Nat} (hq:q<w.Batches.length) {x:Int} (h:inR (ba w q).Life x):0≤x∧x≤1000000:=by
 have:=(V.ba q hq).1.life
 unfold inR ba at h
 omega
theorem zps {w:Wear} {known m x:Int} (h:0≤x∧x≤1000000):OkBy w known m [] x:=⟨h,fun s hs=>(by cases hs),fun s hs=>(by cases hs),fun s hs=>(by cases hs)⟩
theorem zo0 {w:Wear} (V:WearOk w) {i q:Nat} (hi:i<w.Mantles.length) (hq:q<w.Batches.length):bat w i=(q:Int)↔(mt w i).Batch=(ba w q).Id:=by
 have hb:=zj0 V hi
 have e:=zlG (w:=w) (id:=(mt w i).Batch) hb.1
 constructor
 · intro h
   rw [show zdt w (mt w i).Batch=(q:Int) from h] at e
   exact e.symm
 · intro h
   have:=zpY V (i:=(bat w i).toNat) (by omega) hq (e.trans h)
   omega
def zhC (w:Wear) (known:Int) (S:Nat→List mantle_sight) (q:Nat) (x:Int):Prop:=inR (ba w q).Life x∧∀ i,i<w.Mantles.length→bat w i=(q:Int)→OkBy w known i (S i) x
theorem zmA {w:Wear} (V:WearOk w) {fuel:Nat} (hf:1000≤fuel) {known:Int} {L:List Look} (hL:ToldL known L) {q:Nat} (hq:q<w.Batches.length) :
 Wp (zbO fuel w (ba w q) ⟨L,known⟩) (fun r=>∀ x,inR r x↔zhC w known (sights w known L) q x):=by
 have nm:=V.nm
 unfold zbO
 refine zkX w.Mantles.length (by omega) (fun i s=>∀ x,inR s x↔inR (ba w q).Life x∧∀ j,j<i→bat w j=(q:Int)→OkBy w known j (sights w known L j) x) (fun x=>⟨fun h=>⟨h,fun j hj=>absurd hj (Nat.not_lt_zero _)⟩,fun h=>h.1⟩) (fun i s K hi hI hK=>?_)
 by_cases hin':¬ i<w.Mantles.length
 · have:i=w.Mantles.length:=by omega
   subst this
   exact zbs (by simp [-List.getD_eq_getElem?_getD]) (zar hI)
 have hin:=Classical.not_not.1 hin'
 refine zbP (by simp [-List.getD_eq_getElem?_getD];omega) (zaA (by simp only;omega) ?_)
 simp only [Int.toNat_natCast]
 have ext:∀ {x:Int},(∀ j,j<i+1→bat w j=(q:Int)→OkBy w known j (sights w known L j) x)↔(∀ j,j<i→bat w j=(q:Int)→OkBy w known j (sights w known L j) x)∧(bat w i=(q:Int)→OkBy w known i (sights w known L i) x):=fun {x}=>
  ⟨fun h=>⟨fun j hj=>h j (by omega),h i (by omega)⟩,fun h j hj=>by
   by_cases e:j=i
   · rw [e];exact h.2
   · exact h.1 j (by omega)⟩
 refine zbQ (fun hb=>?_) (fun hb=>zaw (by omega) (hK _ hin (fun x=>?_)))
 · simp only [Bool.and_eq_true,decide_eq_true_eq] at hb
   have hbi:bat w i=(q:Int):=(zo0 V hin hq).2 hb.1
   refine wp_bind (znZ V hf hL hin) (fun r hr=>?_)
   refine zbZ (fun hlt=>zar (fun x=>⟨fun h=>?_,fun h=>?_⟩)) (fun hge=>zaw (by omega) (hK _ hin (fun x=>?_)))
   · unfold inR at h;omega
   · exact (hr x).2 (h.2 i hin hbi)
   · rw [show inR (⟨max s.Lo r.Lo,min s.Hi r.Hi⟩:Range) x↔inR s x∧inR r x from zkQ,hI,hr,ext]
     exact ⟨fun h=>⟨h.1.1,h.1.2,fun _=>h.2⟩,fun h=>⟨⟨h.1,h.2.1⟩,h.2.2 hbi⟩⟩
 · rw [hI,ext]
   refine ⟨fun h=>⟨h.1,h.2,fun hbi=>?_⟩,fun h=>⟨h.1,h.2.1⟩⟩
   have:sights w known L i=[]:=by
    rw [List.eq_nil_iff_forall_not_mem]
    intro s hs
    obtain ⟨lamp,hfi⟩:=zhD hs
    have h1:=(zo0 V hin hq).1 hbi
    have h2:=hfi.cand.2.2
    rw [Bool.and_eq_false_iff,decide_eq_false_iff_not] at hb
    rcases hb with hb|hb
    · exact hb h1
    · exact absurd (h2.symm.trans hb) (by decide)
   rw [this]
   exact zps (zqi V hq h.1)
theorem znS {w:Wear} (V:WearOk w) {fuel:Nat} (hf:1000≤fuel) {known:Int} {L:List Look} (hL:ToldL known L):Wp (zb5 fuel w ⟨L,known⟩) (fun r=>r=true↔zgo w known (sights w known L)):=by
 have nb:=V.nb
 unfold zb5
 refine zgR (n:=w.Batches.length) (by omega) (fun i=>∃ x,zhC w known (sights w known L) i x) (fun i K hi hI hK=>?_) (fun h K=>zbs (by simp [-List.getD_eq_getElem?_getD]) (zar ⟨fun _=>h,fun _=>rfl⟩))
 refine zbP (by simp [-List.getD_eq_getElem?_getD];omega) (zaA (by omega) ?_)
 simp only [Int.toNat_natCast]
 refine wp_bind (zmA V hf hL hi) (fun r hr=>?_)
 refine zbZ (fun hlt=>zar ⟨fun h=>(by cases h),fun h=>?_⟩) (fun hge=>zaw (by omega) (hK ⟨r.Lo,(hr _).1 ⟨Int.le_refl _,by omega⟩⟩))
 obtain ⟨x,hx⟩:=h i hi
 have:=(hr x).2 hx
 unfold inR at this
 omega
end Go.Sp
end
/- Plain laws, mantle: states by both; MantleAges. No program in sight. -/
section
set_option linter.all false
namespace Go.Sp
open Go.Av
set_option maxRecDepth 100000
theorem zlW {w:Wear} (V:WearOk w) {fuel:Nat} (hf:1000≤fuel) {id:Int}:Wp (zbH fuel w id) (fun r=>(0≤zdt w id∧r=(ba w (zdt w id).toNat,true))∨(zdt w id<0∧r.2=false)):=by
 have nb:=V.nb
 unfold zbH
 refine zgR (n:=w.Batches.length) (by omega) (fun i=>(ba w i).Id≠id) (fun i K hi _ hK=>?_) (fun h K=>zbs (by simp [-List.getD_eq_getElem?_getD]) (zar (.inr ⟨zfa.2 (fun ⟨j,hj,e⟩=>h j hj e),rfl⟩)))
 refine zbP (by simp [-List.getD_eq_getElem?_getD];omega) (zaA (by omega) ?_)
 simp only [Int.toNat_natCast]
 refine zbZ (fun h=>zaA (by omega) (zar (.inl ?_))) (fun h=>zaA (by unfold inI;omega) (hK h))
 have h0:0≤zdt w id:=by
  rcases Int.lt_or_le (zdt w id) 0 with h1|h1
  · exact absurd ⟨i,hi,h⟩ (zfa.1 h1)
  · exact h1
 have h1:=zlG h0
 have h2:=zlF w id
 have:(zdt w id).toNat=i:=zpY V (by omega) hi (h1.trans h.symm)
 rw [this]
 exact ⟨h0,rfl⟩
theorem zlA {w:Wear} (V:WearOk w) {known:Int} {S:Nat→List mantle_sight} {m:Nat} (hm:m<w.Mantles.length) {night:Int} {bad:Bool} :
 zgN w known S m night bad↔∃ x,zhC w known S (bat w m).toNat x∧OkBy w known m (S m++[⟨night,bad⟩]) x:=by
 have hb:=zj0 V hm
 have e:(((bat w m).toNat:Nat):Int)=bat w m:=by omega
 unfold zgN zhC
 rw [e]
theorem zqq {w:Wear} {known m:Int} {S:List mantle_sight} {g b x:Int} (he:Ends S g b) (h:OkBy w known m S x):(g ≠ -1→zeV w known m (-1) g≤x)∧(b ≠ -1→x<zcA w known m (-1) b)∧(g ≠ -1→b ≠ -1→g<b∧0<zcA w known m g b):=by
 refine ⟨fun hg=>?_,fun hb=>?_,fun hg hb=>?_⟩
 · obtain ⟨s,hs,s1,s2⟩:=he.good.resolve_left hg
   have:=h.good s hs s1
   rwa [s2] at this
 · obtain ⟨s,hs,s1,s2⟩:=he.bad.resolve_left hb
   have:=h.bad s hs s1
   rwa [s2] at this
 · obtain ⟨s,hs,s1,s2⟩:=he.good.resolve_left hg
   obtain ⟨t,ht,t1,t2⟩:=he.bad.resolve_left hb
   have:=h.two s hs t ht s1 t1
   rwa [s2,t2] at this
theorem zoX {w:Wear} (V:WearOk w) {known:Int} {S:List mantle_sight} {m:Int} {night g b x:Int} (hn:0≤night) (hS:∀ s∈S,0≤s.night) (he:Ends S g b) (h:OkBy w known m S x) :
 OkBy w known m (S++[⟨night,true⟩]) x↔g<night∧x<zcA w known m (-1) night∧(g ≠ -1→0<zcA w known m g night):=by
 constructor
 · intro k
   refine ⟨?_,k.bad ⟨night,true⟩ (by simp [-List.getD_eq_getElem?_getD]) rfl,fun hg=>?_⟩
   · by_cases hg:g = -1
     · omega
     · obtain ⟨s,hs,s1,s2⟩:=he.good.resolve_left hg
       have:=(k.two s (List.mem_append.2 (.inl hs)) ⟨night,true⟩ (by simp [-List.getD_eq_getElem?_getD]) s1 rfl).1
       simp only at this;omega
   · obtain ⟨s,hs,s1,s2⟩:=he.good.resolve_left hg
     have:=(k.two s (List.mem_append.2 (.inl hs)) ⟨night,true⟩ (by simp [-List.getD_eq_getElem?_getD]) s1 rfl).2
     rw [s2] at this;exact this
 · rintro ⟨k1,k2,k3⟩
   refine ⟨h.range,fun s hs s1=>?_,fun s hs s1=>?_,fun s hs t ht s1 t1=>?_⟩
   · rcases List.mem_append.1 hs with hs|hs
     · exact h.good s hs s1
     · rw [List.mem_singleton] at hs;subst hs;cases s1
   · rcases List.mem_append.1 hs with hs|hs
     · exact h.bad s hs s1
     · rw [List.mem_singleton] at hs;subst hs;exact k2
   · rcases List.mem_append.1 hs with hs|hs
     · rcases List.mem_append.1 ht with ht|ht
       · exact h.two s hs t ht s1 t1
       · rw [List.mem_singleton] at ht;subst ht
         have a:=he.top s hs s1
         have a0:=hS s hs
         have a2:=k3 (by omega)
         have:=zem V (known:=known) (m:=m) (f:=g) (f':=s.night) (Int.le_refl night) a
         exact ⟨by simp only;omega,by simp only;omega⟩
     · rw [List.mem_singleton] at hs;subst hs;cases s1
theorem zm7 {w:Wear} (V:WearOk w) {known:Int} {S:List mantle_sight} {m:Int} {night g b x:Int} (hn:0≤night) (he:Ends S g b) (h:OkBy w known m S x) :
 OkBy w known m (S++[⟨night,false⟩]) x↔zeV w known m (-1) night≤x∧(b ≠ -1→night<b∧0<zcA w known m night b):=by
 constructor
 · intro k
   refine ⟨k.good ⟨night,false⟩ (by simp [-List.getD_eq_getElem?_getD]) rfl,fun hb=>?_⟩
   obtain ⟨s,hs,s1,s2⟩:=he.bad.resolve_left hb
   have:=k.two ⟨night,false⟩ (by simp [-List.getD_eq_getElem?_getD]) s (List.mem_append.2 (.inl hs)) rfl s1
   rw [s2] at this;exact this
 · rintro ⟨k1,k2⟩
   refine ⟨h.range,fun s hs s1=>?_,fun s hs s1=>?_,fun s hs t ht s1 t1=>?_⟩
   · rcases List.mem_append.1 hs with hs|hs
     · exact h.good s hs s1
     · rw [List.mem_singleton] at hs;subst hs;exact k1
   · rcases List.mem_append.1 hs with hs|hs
     · exact h.bad s hs s1
     · rw [List.mem_singleton] at hs;subst hs;cases s1
   · rcases List.mem_append.1 ht with ht|ht
     · rcases List.mem_append.1 hs with hs|hs
       · exact h.two s hs t ht s1 t1
       · rw [List.mem_singleton] at hs;subst hs
         have a:=he.low t ht t1
         have a2:=k2 a.1
         have:=zem V (known:=known) (m:=m) (f:=night) (f':=night) a.2 (Int.le_refl _)
         exact ⟨by simp only;omega,by simp only;omega⟩
     · rw [List.mem_singleton] at ht;subst ht;cases t1
theorem znd {w:Wear} (V:WearOk w) {known:Int} {S:Nat→List mantle_sight} {m:Nat} (hm:m<w.Mantles.length) {night g b:Int} (hn:0≤night) (hS:∀ s∈S m,0≤s.night) (he:Ends (S m) g b) {r:Range}
 (hr:∀ x,inR r x↔zhC w known S (bat w m).toNat x) (hs:r.Lo≤r.Hi) :
 (zgN w known S m night true↔g<night∧r.Lo<zcA w known m (-1) night∧(g ≠ -1→0<zcA w known m g night)) ∧
 (zgN w known S m night false↔zeV w known m (-1) night≤r.Hi∧(b ≠ -1→night<b∧0<zcA w known m night b)):=by
 have hb:=zj0 V hm
 have hbm:bat w m=(((bat w m).toNat:Nat):Int):=by omega
 rw [zlA V hm,zlA V hm]
 constructor
 · constructor
   · rintro ⟨x,h1,h2⟩
     have h3:=(zoX V hn hS he (h1.2 m hm hbm)).1 h2
     have h4:=(hr x).2 h1
     unfold inR at h4
     exact ⟨h3.1,by omega,h3.2.2⟩
   · rintro ⟨k1,k2,k3⟩
     have h1:=(hr r.Lo).1 ⟨Int.le_refl _,hs⟩
     exact ⟨r.Lo,h1,(zoX V hn hS he (h1.2 m hm hbm)).2 ⟨k1,k2,k3⟩⟩
 · constructor
   · rintro ⟨x,h1,h2⟩
     have h3:=(zm7 V hn he (h1.2 m hm hbm)).1 h2
     have h4:=(hr x).2 h1
     unfold inR at h4
     exact ⟨by omega,h3.2⟩
   · rintro ⟨k1,k2⟩
     have h1:=(hr r.Hi).1 ⟨hs,Int.le_refl _⟩
     exact ⟨r.Hi,h1,(zm7 V hn he (h1.2 m hm hbm)).2 ⟨k1,k2⟩⟩
theorem zmy {w:Wear} {known:Int} {S:Nat→List mantle_sight} {m:Nat} {night:Int} (h:¬ zgN w known S m night true):stateR w known S m night=0:=by unfold stateR;exact if_pos h
theorem zmx {w:Wear} {known:Int} {S:Nat→List mantle_sight} {m:Nat} {night:Int} (h:zgN w known S m night true) (h2:¬ zgN w known S m night false):stateR w known S m night=1:=by unfold stateR;exact (if_neg (fun k=>k h)).trans (if_pos h2)
theorem zpc {w:Wear} {known:Int} {S:Nat→List mantle_sight} {m:Nat} {night:Int} (h:zgN w known S m night true) (h2:zgN w known S m night false):stateR w known S m night=2:=by unfold stateR;exact (if_neg (fun k=>k h)).trans (if_neg (fun k=>k h2))
theorem znR {w:Wear} (V:WearOk w) {fuel:Nat} (hf:1000≤fuel) {known:Int} {L:List Look} (hL:ToldL known L) (hsd:zgo w known (sights w known L)) {lamp night:Int} {m:Nat} (hfi:FitIs w lamp night known w.Mantles.length m) (hn:0≤night) :
 zb4 fuel w (mt w m) night ⟨L,known⟩=some (stateR w known (sights w known L) m night):=by
 have hm:=hfi.lt
 have hb:=zj0 V hm
 unfold zb4
 refine Wp.eq (wp_bind (znQ V hf hL hm) (fun y1 he=>?_))
 obtain ⟨g,b⟩:=y1
 simp only at he ⊢
 have g0:=he.g0;have b0:=he.b0
 have hS:∀ s∈sights w known L m,0≤s.night:=fun s hs=>zh7 hL hs
 obtain ⟨r,er,hr⟩:=zmA V hf hL (q:=(bat w m).toNat) (by omega)
 have hs:r.Lo≤r.Hi:=by
  obtain ⟨x,hx⟩:=hsd (bat w m).toNat (by omega)
  have:=(hr x).2 hx
  unfold inR at this;omega
 obtain ⟨ct,cf⟩:=znd V hm hn hS he hr hs
 have hab:=zhA V known m
 obtain ⟨x0,hx0⟩:=hsd (bat w m).toNat (by omega)
 have hok:=zqq he (hx0.2 m hm (by omega))
 refine zbZ (fun h1=>zar ?_) (fun h1=>?_)
 · exact (zmy (fun k=>by have:=(ct.1 k).1;omega)).symm
 refine zbQ (fun h2=>zar ?_) (fun h2=>?_)
 · simp only [Bool.and_eq_true,decide_eq_true_eq] at h2
   refine (zmx (ct.2 ⟨by omega,?_,fun hg=>?_⟩) (fun k=>?_)).symm
   · have h3:=hok.2.1 (by omega)
     have h4:=zem V (known:=known) (m:=(m:Int)) (f:=-1) (f':=-1) h2.2 (Int.le_refl _)
     have h5:=(hr x0).2 hx0
     unfold inR at h5
     omega
   · have h3:=(hok.2.2 hg (by omega)).2
     have h4:=zem V (known:=known) (m:=(m:Int)) (f:=g) (f':=g) h2.2 (Int.le_refl _)
     omega
   · have:=(cf.1 k).2 (by omega);omega
 rw [Bool.and_eq_false_iff,decide_eq_false_iff_not,decide_eq_false_iff_not] at h2
 have hbatch:(zdt w (mt w m).Batch)=bat w m:=rfl
 obtain ⟨y5,e5,h5⟩:=zlW V hf (id:=(mt w m).Batch)
 rw [hbatch] at h5
 have h5:y5=(ba w (bat w m).toNat,true):=by
  rcases h5 with ⟨_,h5⟩|⟨h5,_⟩
  · exact h5
  · omega
 refine zat e5 ?_
 subst h5
 refine zat er (zat (zkc V (by omega) hfi) ?_)
 simp only
 refine zd6 (fun s=>s=true↔zgN w known (sights w known L) m night true) (fun K hK=>?_) (fun s11 h11=>?_)
 · refine zbZ (fun hg=>?_) (fun hg=>hK _ ?_)
   · refine zjw (Q:=fun y=>y=⟨zeV w known m (-1) g,zcA w known m (-1) g⟩) (fun _=>⟨_,zmT V hf he (by omega),rfl⟩) (fun y hy=>hK _ ?_)
     have h6:=zfz (w:=w) (known:=known) (m:=(m:Int)) (a:=-1) (b:=g) (c:=night) (by omega) (by omega)
     rw [ct,Bool.and_eq_true,decide_eq_true_eq,decide_eq_true_eq]
     constructor
     · rintro ⟨k1,k2⟩
       rw [hy (by simpa [-List.getD_eq_getElem?_getD] using k1)] at k2
       simp only at k2
       exact ⟨by omega,k1,fun _=>by omega⟩
     · rintro ⟨k1,k2,k3⟩
       refine ⟨k2,?_⟩
       rw [hy (by simpa [-List.getD_eq_getElem?_getD] using k2)]
       have:=k3 (by omega)
       simp only;omega
   · rw [ct,decide_eq_true_eq]
     exact ⟨fun k=>⟨by omega,k,fun h=>by omega⟩,fun k=>k.2.1⟩
 refine zd6 (fun s=>s=true↔zgN w known (sights w known L) m night false) (fun K hK=>?_) (fun s12 h12=>?_)
 · refine zbZ (fun hbb=>?_) (fun hbb=>hK _ ?_)
   · have hlt:night<b:=by rcases h2 with h2|h2 <;> omega
     refine zjw (Q:=fun y=>y=⟨zeV w known m (-1) b,zcA w known m (-1) b⟩) (fun _=>⟨_,zo1 V hf he (by omega),rfl⟩) (fun y hy=>hK _ ?_)
     have h6:=zfz (w:=w) (known:=known) (m:=(m:Int)) (a:=-1) (b:=night) (c:=b) (by omega) (by omega)
     rw [cf,Bool.and_eq_true,decide_eq_true_eq,decide_eq_true_eq]
     constructor
     · rintro ⟨k1,k2⟩
       rw [hy (by simpa [-List.getD_eq_getElem?_getD] using k1)] at k2
       simp only at k2
       exact ⟨k1,fun _=>⟨hlt,by omega⟩⟩
     · rintro ⟨k1,k2⟩
       refine ⟨k1,?_⟩
       rw [hy (by simpa [-List.getD_eq_getElem?_getD] using k1)]
       have:=k2 (by omega)
       simp only;omega
   · rw [cf,decide_eq_true_eq]
     exact ⟨fun k=>⟨k,fun h=>by omega⟩,fun k=>k.1⟩
 refine zbQ (fun h=>zar ?_) (fun h=>zbQ (fun h'=>zar ?_) (fun h'=>zar ?_))
 · rw [Bool.and_eq_true] at h
   exact (zpc (h11.1 h.1) (h12.1 h.2)).symm
 · rw [h'] at h
   exact (zmx (h11.1 h') (fun k=>by rw [h12.2 k] at h;cases h)).symm
 · exact (zmy (fun k=>by rw [h11.2 k] at h';cases h')).symm
end Go.Sp
end
/- Plain laws, mantle: State, Age, Fitted by both; MantleAges. No program in sight. -/
section
set_option linter.all false
namespace Go.Sp
open Go.Av
set_option maxRecDepth 100000
def zlS (w:Wear) (known:Int) (m:Nat) (l:Look):Bool:=decide (fit w l.Lamp l.Night known=(m:Int)) && zau l.Known l.Until known
def toS (l:Look):mantle_sight:=⟨l.Night,l.Bad⟩
theorem zjM {w:Wear} {known:Int} {l:List Look} {m:Nat}:∀ {n:Nat},n≤l.length→zca w known l m n=((l.take n).filter (zlS w known m)).map toS
 | 0,_=>rfl
 | n+1,h=>by
  rw [zeY (by omega),List.filter_append,List.map_append,← zjM (by omega)]
  rw [show zca w known l m (n+1)=if fit w (lk l n).Lamp (lk l n).Night known=(m:Int)∧zau (lk l n).Known (lk l n).Until known=true then zca w known l m n++[⟨(lk l n).Night,(lk l n).Bad⟩] else zca w known l m n from rfl]
  by_cases hc:fit w (lk l n).Lamp (lk l n).Night known=(m:Int)∧zau (lk l n).Known (lk l n).Until known=true
  · have:zlS w known m (l.getD n default)=true:=by unfold zlS;rw [Bool.and_eq_true,decide_eq_true_eq];exact hc
    rw [if_pos hc];simp [-List.getD_eq_getElem?_getD,this,toS,lk]
  · have:zlS w known m (l.getD n default)=false:=by
     rw [← Bool.not_eq_true];unfold zlS;rw [Bool.and_eq_true,decide_eq_true_eq];exact hc
    rw [if_neg hc];simp [-List.getD_eq_getElem?_getD,this]
theorem zhg (w:Wear) (known:Int) (l:List Look) (m:Nat):sights w known l m=(l.filter (zlS w known m)).map toS:=by
 unfold sights
 rw [zjM (Nat.le_refl _),List.take_length]
theorem zfN (w:Wear) (known:Int):sights w known (znb w known)=sights w known w.Looks:=by
 funext m
 rw [zhg,zhg]
 unfold znb
 rw [List.filter_filter]
 congr 1
 refine List.filter_congr (fun l _=>?_)
 unfold zlS tells
 rw [Bool.eq_iff_iff]
 simp only [Bool.and_eq_true,decide_eq_true_eq]
 constructor
 · rintro ⟨h1,_⟩;exact h1
 · rintro ⟨h1,h2⟩;exact ⟨⟨h1,h2⟩,by omega,h2⟩
theorem zol {w:Wear} (V:WearOk w):w.Looks.length≤1000∧∀ x∈w.Looks,0≤x.Night:=⟨by have:=V.nl;omega,fun x hx=>(look_ok V hx).night.1⟩
abbrev allS (w:Wear) (known:Int):Nat→List mantle_sight:=sights w known w.Looks
theorem zpd {w:Wear} (V:WearOk w) {fuel:Nat} (hf:1000≤fuel) (known:Int):Wp (zdr fuel w known) (fun r=>(zgo w known (allS w known)∧r.2=0∧Hung w known (allS w known) r.1)∨(¬ zgo w known (allS w known)∧r.2=65)):=by
 unfold zdr
 refine wp_bind (zos V hf (zol V).1 (zol V).2 known) (fun c hc=>wp_bind (znv hc) (fun b hb=>?_))
 refine zbQ (fun h=>zar (.inr ⟨fun k=>?_,rfl⟩)) (fun h=>zar (.inl ⟨hb.1 (by simpa [-List.getD_eq_getElem?_getD] using h),rfl,hc⟩))
 rw [hb.2 k] at h;cases h
open Classical in
noncomputable def stateV (w:Wear) (lamp night known:Int):Int×Int:=
 if za2 w lamp night known≠0 then (0,za2 w lamp night known) else if zgo w known (allS w known) then (stateR w known (allS w known) (fit w lamp night known).toNat night,0) else (0,65)
theorem zjL {w:Wear} {lamp night known:Int} (h:za2 w lamp night known≠0):stateV w lamp night known=(0,za2 w lamp night known):=by unfold stateV;exact if_pos h
theorem zkY {w:Wear} {lamp night known:Int} (h:za2 w lamp night known=0) (h2:zgo w known (allS w known)):stateV w lamp night known=(stateR w known (allS w known) (fit w lamp night known).toNat night,0):=by unfold stateV;exact (if_neg (fun k=>k h)).trans (if_pos h2)
theorem zh6 {w:Wear} {lamp night known:Int} (h:za2 w lamp night known=0) (h2:¬ zgo w known (allS w known)):stateV w lamp night known=(0,65):=by unfold stateV;exact (if_neg (fun k=>k h)).trans (if_neg h2)
theorem zoj {w:Wear} (V:WearOk w) {fuel:Nat} (hf:1000≤fuel) (lamp night known:Int):zci fuel w lamp night known=some (stateV w lamp night known):=by
 unfold zci
 refine Wp.eq (zat (ziY V lamp night known) ?_)
 refine zeW (fun h=>zar (zjL h).symm) (fun h=>?_)
 have h:za2 w lamp night known=0:=h
 obtain ⟨h1,h2,h3,h4⟩:=zd1 h
 simp only [h,if_true]
 have hlt:=zlr w lamp night known
 obtain ⟨m,hm⟩:∃ m:Nat,fit w lamp night known=(m:Int):=⟨_,(Int.toNat_of_nonneg h4).symm⟩
 refine wp_bind (zpd V hf known) (fun r hr=>?_)
 rcases hr with ⟨k1,k2,k3⟩|⟨k1,k2⟩
 · refine zeW (fun h=>absurd k2 h) (fun _=>?_)
   rw [hm] at hlt ⊢
   refine zat (zpb V k3 (by omega) h2.1) (zar ?_)
   rw [zkY h k1,hm,Int.toNat_natCast]
 · refine zeW (fun _=>zar ?_) (fun h=>by omega)
   rw [zh6 h k1,k2]
theorem znt {w:Wear} (hw:Fits w) (V:¬ WearOk w) (fuel:Nat) (lamp night known:Int):zci fuel w lamp night known=some (0,64):=by
 unfold zci
 exact Wp.eq (zat (zhL hw V lamp night known) (zbP (by simp [-List.getD_eq_getElem?_getD]) (zar rfl)))
theorem zpg {w:Wear} (V:WearOk w) {fuel:Nat} (hf:1000≤fuel) (known:Int):zcj fuel w known=some ⟨znb w known,known⟩:=by
 unfold zcj
 exact Wp.eq (zat (znY V hf known) (zar rfl))
theorem zn4 {w:Wear} (V:WearOk w) {fuel:Nat} (hf:1000≤fuel) (lamp night known:Int):zbc fuel w ⟨lamp,night,known⟩=some (stateV w lamp night known):=by
 unfold zbc
 refine Wp.eq (zat (zi1 (by omega) V lamp night known) ?_)
 refine zeW (fun h=>zar (zjL h).symm) (fun h=>?_)
 have h:za2 w lamp night known=0:=h
 obtain ⟨h1,h2,h3,h4⟩:=zd1 h
 simp only [h,if_true]
 obtain ⟨m,hm⟩:∃ m:Nat,fit w lamp night known=(m:Int):=⟨_,(Int.toNat_of_nonneg h4).symm⟩
 refine zat (zpg V hf known) (wp_bind (znS V hf (zjI V known)) (fun b hb=>?_))
 rw [zfN] at hb
 refine zbQ (fun k=>zar ?_) (fun k=>?_)
 · exact (zh6 h (fun k2=>by rw [hb.2 k2] at k;cases k)).symm
 · have hs:=hb.1 (by simpa [-List.getD_eq_getElem?_getD] using k)
   rw [hm,Int.toNat_natCast]
   refine zat (znR V hf (zjI V known) (by rw [zfN];exact hs) (zmY hm) h2.1) (zar ?_)
   rw [zkY h hs,hm,Int.toNat_natCast,zfN]
theorem znj {w:Wear} {fuel:Nat} (hf:1000≤fuel) (V:¬ WearOk w) (n:gasolierref06_When):zbc fuel w n=some (0,64):=by
 unfold zbc
 exact Wp.eq (zat (zhN (by omega) V n) (zbP (by simp [-List.getD_eq_getElem?_getD]) (zar rfl)))
def ageV (w:Wear) (lamp night known:Int):Range×Int:=if za2 w lamp night known≠0 then (⟨0,0⟩,za2 w lamp night known) else (⟨zeV w known (fit w lamp night known) (-1) night,zcA w known (fit w lamp night known) (-1) night⟩,0)
theorem zm9 {w:Wear} {lamp night known:Int} (h:za2 w lamp night known≠0):ageV w lamp night known=(⟨0,0⟩,za2 w lamp night known):=by unfold ageV;exact if_pos h
theorem zo7 {w:Wear} {lamp night known:Int} (h:za2 w lamp night known=0):ageV w lamp night known=(⟨zeV w known (fit w lamp night known) (-1) night,zcA w known (fit w lamp night known) (-1) night⟩,0):=by unfold ageV;exact if_neg (fun k=>k h)
theorem zqh {w:Wear} (V:WearOk w) {fuel:Nat} (hf:1000≤fuel) (lamp night known:Int):zds fuel w lamp night known=some (ageV w lamp night known):=by
 unfold zds
 refine Wp.eq (zat (ziY V lamp night known) ?_)
 refine zeW (fun h=>zar (zm9 h).symm) (fun h=>?_)
 have h:za2 w lamp night known=0:=h
 obtain ⟨h1,h2,h3,h4⟩:=zd1 h
 rw [zo7 h]
 simp only [h,if_true]
 have hlt:=zlr w lamp night known
 obtain ⟨m,hm⟩:∃ m:Nat,fit w lamp night known=(m:Int):=⟨_,(Int.toNat_of_nonneg h4).symm⟩
 rw [hm] at hlt ⊢
 refine wp_bind (zos V hf (l:=[]) (by simp [-List.getD_eq_getElem?_getD]) (fun x hx=>by cases hx) known) (fun c hc=>?_)
 obtain ⟨x,e,hx⟩:=hc.coats m (by omega)
 rw [e]
 exact zat (zkS V hx _ _) (zar rfl)
theorem zqb {w:Wear} (V:WearOk w) {fuel:Nat} (hf:1000≤fuel) (lamp night known:Int):zbC fuel w ⟨lamp,night,known⟩=some (ageV w lamp night known):=by
 unfold zbC
 refine Wp.eq (zat (zi1 (by omega) V lamp night known) ?_)
 refine zeW (fun h=>zar (zm9 h).symm) (fun h=>?_)
 have h:za2 w lamp night known=0:=h
 obtain ⟨h1,h2,h3,h4⟩:=zd1 h
 rw [zo7 h]
 simp only [h,if_true]
 obtain ⟨m,hm⟩:∃ m:Nat,fit w lamp night known=(m:Int):=⟨_,(Int.toNat_of_nonneg h4).symm⟩
 rw [hm,Int.toNat_natCast]
 exact zat (zkc V (by omega) (zmY hm)) (zar rfl)
def zhS (w:Wear) (lamp night known:Int):Int×Int:=if za2 w lamp night known≠0 then (0,za2 w lamp night known) else ((mt w (fit w lamp night known).toNat).Source,0)
theorem zja {w:Wear} {lamp night known:Int} (h:za2 w lamp night known≠0):zhS w lamp night known=(0,za2 w lamp night known):=by unfold zhS;exact if_pos h
theorem zjU {w:Wear} {lamp night known:Int} (h:za2 w lamp night known=0):zhS w lamp night known=((mt w (fit w lamp night known).toNat).Source,0):=by unfold zhS;exact if_neg (fun k=>k h)
theorem znu {w:Wear} (V:WearOk w) (lamp night known:Int):zcy w lamp night known=some (zhS w lamp night known):=by
 unfold zcy
 refine Wp.eq (zat (ziY V lamp night known) ?_)
 refine zeW (fun h=>zar (zja h).symm) (fun h=>?_)
 have h:za2 w lamp night known=0:=h
 obtain ⟨h1,h2,h3,h4⟩:=zd1 h
 rw [zjU h]
 simp only [h,if_true]
 have hlt:=zlr w lamp night known
 exact zaA ⟨h4,hlt.2⟩ (zar rfl)
theorem znk {w:Wear} (V:WearOk w) {fuel:Nat} (hf:1000≤fuel) (lamp night known:Int):za7 fuel w ⟨lamp,night,known⟩=some (zhS w lamp night known):=by
 unfold za7
 refine Wp.eq (zat (zi1 (by omega) V lamp night known) (zar ?_))
 by_cases h:za2 w lamp night known=0
 · rw [zjU h,h];rfl
 · rw [zja h,if_neg h];rfl
theorem zjt {w:Wear} (hw:Fits w) (n:gasolierref06_When):za0 1000 w n=some true:=by
 obtain ⟨lamp,night,known⟩:=n
 unfold za0
 by_cases V:WearOk w
 · refine Wp.eq (zat zk1 (zat (znu V _ _ _) (zat (znk V (by omega) _ _ _) (zat (zqh V (by omega) _ _ _) (zat (zqb V (by omega) _ _ _) (zat (zoj V (by omega) _ _ _) (zat (zn4 V (by omega) _ _ _) (zar ?_))))))))
   simp [-List.getD_eq_getElem?_getD]
 · have e1:zcy w lamp night known=some (0,64):=by
    unfold zcy
    exact Wp.eq (zat (zhL hw V _ _ _) (zbP (by simp [-List.getD_eq_getElem?_getD]) (zar rfl)))
   have e2:za7 1000 w ⟨lamp,night,known⟩=some (0,64):=by
    unfold za7
    exact Wp.eq (zat (zhN (by omega) V _) (zar rfl))
   have e3:zds 1000 w lamp night known=some (⟨0,0⟩,64):=by
    unfold zds
    exact Wp.eq (zat (zhL hw V _ _ _) (zbP (by simp [-List.getD_eq_getElem?_getD]) (zar rfl)))
   have e4:zbC 1000 w ⟨lamp,night,known⟩=some (⟨0,0⟩,64):=by
    unfold zbC
    exact Wp.eq (zat (zhN (by omega) V _) (zbP (by simp [-List.getD_eq_getElem?_getD]) (zar rfl)))
   refine Wp.eq (zat zk1 (zat e1 (zat e2 (zat e3 (zat e4 (zat (znt hw V _ _ _ _) (zat (znj (by omega) V _) (zar ?_))))))))
   simp [-List.getD_eq_getElem?_getD]
end Go.Sp
end
