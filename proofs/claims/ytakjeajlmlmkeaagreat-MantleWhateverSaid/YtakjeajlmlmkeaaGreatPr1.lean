/- Texts of the framework, or of the plain law, one behind another. -/
import Derived.Test.YtakjeajlmlmkeaaGreatFr1
import Derived.Test.YtakjeajlmlmkeaaGreatFr4
import Derived.KernelRfl
/- Rules for plain laws: what a printed definition yields. No program in sight. -/
section
set_option linter.all false
namespace Go.Sp
open Go.Av
def Wp {R:Type} (x:Option R) (P:R→Prop):Prop:=∃ r,x=some r∧P r
theorem Wp.eq {R:Type} {x:Option R} {v:R} (h:Wp x (· = v)):x=some v:=by
 obtain ⟨r,h1,h2⟩:=h;rw [h1,h2]
theorem zat {R:Type} {r:R} {P:R→Prop} (h:P r):Wp (some r) P:=⟨r,rfl,h⟩
theorem zaq {R:Type} {c:Prop} [Decidable c] {x:Option R} {P:R→Prop} (h:c) (k:Wp x P):Wp (must c x) P:=by
 unfold must;rw [if_pos h];exact k
theorem wp_bind {S R:Type} {x:Option S} {k:S→Option R} {P:R→Prop} {Q:S→Prop} (h:Wp x Q) (hk:∀ s,Q s→Wp (k s) P):Wp (zal x k) P:=by
 obtain ⟨r,h1,h2⟩:=h;rw [h1];exact hk r h2
theorem zau {S R:Type} {x:Option S} {k:S→Option R} {P:R→Prop} {v:S} (h:x=some v) (hk:Wp (k v) P):Wp (zal x k) P:=by
 rw [h];exact hk
theorem zcx {R:Type} {b:Bool} {x y:Option R} {P:R→Prop} (h1:b=true→Wp x P) (h2:b=false→Wp y P):Wp (bif b then x else y) P:=by
 cases b
 · exact h2 rfl
 · exact h1 rfl
theorem wp_if {R:Type} {p:Prop} {b:Bool} {x y:Option R} {P:R→Prop} (hb:b=true↔p) (h1:p→Wp x P) (h2:¬ p→Wp y P):Wp (bif b then x else y) P:=
 zcx (fun h=>h1 (hb.1 h)) (fun h=>h2 (fun hp=>by rw [hb.2 hp] at h;cases h))
theorem zbI {R:Type} {p:Prop} [Decidable p] {x y:Option R} {P:R→Prop} (h1:p→Wp x P) (h2:¬ p→Wp y P):Wp (bif (decide p) then x else y) P:=
 wp_if (decide_eq_true_iff) h1 h2
theorem zg7 {R:Type} {p:Prop} [Decidable p] {x y:Option R} {P:R→Prop} (h1:¬ p→Wp x P) (h2:p→Wp y P):Wp (bif (!decide p) then x else y) P:=
 zcx (fun h=>h1 (by simpa using h)) (fun h=>h2 (by simpa using h))
theorem zcs {R:Type} {b:Bool} {x y:Option R} {P:R→Prop} (h:b=true) (h1:Wp x P):Wp (bif b then x else y) P:=by rw [h];exact h1
theorem zaL {R:Type} {b:Bool} {x y:Option R} {P:R→Prop} (h:b=false) (h1:Wp y P):Wp (bif b then x else y) P:=by rw [h];exact h1
theorem ze9 {S R:Type} {f:(S→Option R)→Option R} {k:S→Option R} {P:R→Prop} (G:S→Prop) (hf:∀ K:S→Option R,(∀ s,G s→Wp (K s) P)→Wp (f K) P) (hk:∀ s,G s→Wp (k s) P):Wp (zhm f k) P:=hf k hk
theorem zco {S R:Type} {body:Nat→S→(S→Option R)→Option R} {ex:S→Option R} {n:Nat} {s0:S} {P:R→Prop} (Inv:Nat→S→Prop) (h0:Inv 0 s0)
 (hb:∀ (i:Nat) s (K:S→Option R),i<n→Inv i s→(∀ s',Inv (i+1) s'→Wp (K s') P)→Wp (body i s K) P) (he:∀ s,Inv n s→Wp (ex s) P):Wp (zao body ex n 0 s0) P:=by
 have go:∀ (m i:Nat),i+m=n→∀ s,Inv i s→Wp (zao body ex m i s) P:=by
  intro m
  induction m with
  | zero=>intro i hi s hs;have e:i=n:=(by omega);subst e;exact he s hs
  | succ m ih=>intro i hi s hs;exact hb i s _ (by omega) hs (fun s' h'=>ih (i+1) (by omega) s' h')
 exact go n 0 (by omega) s0 h0
theorem wp_loop {S R:Type} {body:S→(S→Option R)→Option R} {fuel:Nat} {s0:S} {P:R→Prop} (Inv:S→Prop) (μ:S→Nat) (hf:μ s0<fuel) (h0:Inv s0)
 (hb:∀ s (K:S→Option R),Inv s→(∀ s',Inv s'→μ s'<μ s→Wp (K s') P)→Wp (body s K) P):Wp (loopGo body fuel s0) P:=by
 have go:∀ (f:Nat) s,Inv s→μ s<f→Wp (loopGo body f s) P:=by
  intro f
  induction f with
  | zero=>intro s _ h;omega
  | succ f ih=>intro s hs hm;exact hb s _ hs (fun s' h' hl=>ih s' h' (by omega))
 exact go fuel s0 h0 hf
theorem zj6 {S R:Type} {body:(Int×S)→((Int×S)→Option R)→Option R} {fuel:Nat} {s0:S} {P:R→Prop} (n:Nat) (hf:n<fuel) (Inv:Nat→S→Prop) (h0:Inv 0 s0)
 (hb:∀ (i:Nat) s (K:(Int×S)→Option R),i≤n→Inv i s→(∀ s',i<n→Inv (i+1) s'→Wp (K ((i:Int)+1,s')) P)→Wp (body ((i:Int),s) K) P):Wp (loopGo body fuel (0,s0)) P:=by
 have go:∀ (f i:Nat) s,i≤n→n - i<f→Inv i s→Wp (loopGo body f ((i:Int),s)) P:=by
  intro f
  induction f with
  | zero=>intro i s _ h;omega
  | succ f ih=>intro i s hi hm hs;exact hb i s _ hi hs (fun s' hl h'=>ih (i+1) s' (by omega) (by omega) h')
 exact go fuel 0 s0 (by omega) (by omega) h0
theorem zqG {R:Type} {body:Int→(Int→Option R)→Option R} {fuel:Nat} {P:R→Prop} (n:Nat) (hf:n<fuel) (Inv:Nat→Prop) (h0:Inv 0)
 (hb:∀ (i:Nat) (K:Int→Option R),i≤n→Inv i→(i<n→Inv (i+1)→Wp (K ((i:Int)+1)) P)→Wp (body (i:Int) K) P):Wp (loopGo body fuel 0) P:=by
 have go:∀ (f i:Nat),i≤n→n - i<f→Inv i→Wp (loopGo body f (i:Int)) P:=by
  intro f
  induction f with
  | zero=>intro i _ h;omega
  | succ f ih=>intro i hi hm hs;exact hb i _ hi hs (fun hl h'=>ih (i+1) (by omega) (by omega) h')
 exact go fuel 0 (by omega) (by omega) h0
theorem zqF {S R:Type} {body:(S×Int)→((S×Int)→Option R)→Option R} {fuel:Nat} {s0:S} {P:R→Prop} (n:Nat) (hf:n<fuel) (Inv:Nat→S→Prop) (h0:Inv 0 s0)
 (hb:∀ (i:Nat) s (K:(S×Int)→Option R),i≤n→Inv i s→(∀ s',i<n→Inv (i+1) s'→Wp (K (s',(i:Int)+1)) P)→Wp (body (s,(i:Int)) K) P):Wp (loopGo body fuel (s0,0)) P:=by
 have go:∀ (f i:Nat) s,i≤n→n - i<f→Inv i s→Wp (loopGo body f (s,(i:Int))) P:=by
  intro f
  induction f with
  | zero=>intro i s _ h;omega
  | succ f ih=>intro i s hi hm hs;exact hb i s _ hi hs (fun s' hl h'=>ih (i+1) s' (by omega) (by omega) h')
 exact go fuel 0 s0 (by omega) (by omega) h0
end Go.Sp
end
/- More rules for plain laws. No program in sight. -/
section
set_option linter.all false
namespace Go.Sp
open Go.Av
theorem zai {R:Type} {n:Int} {x:Option R} {P:R→Prop} (h : -9223372036854775808≤n∧n≤9223372036854775807) (k:Wp x P):Wp (must (inI n) x) P:=zaq h k
theorem zbO {R:Type} {n b:Nat} {x:Option R} {P:R→Prop} (h:n * b≤140737488355328∧n≤9223372036854775807) (k:Wp x P):Wp (must (room n b) x) P:=zaq h k
theorem zkC {S R:Type} [Inhabited S] {W:Bool} {x:Option S} {k:S→Option R} {P:R→Prop} {Q:S→Prop} (h:W=true→Wp x Q) (hk:∀ s,(W=true→Q s)→Wp (k s) P):Wp (zal (bif W then x else some default) k) P:=by
 cases W
 · exact hk _ (fun h=>by cases h)
 · exact wp_bind (h rfl) (fun s hs=>hk s (fun _=>hs))
end Go.Sp
end
/- Rules for plain laws, more of them. No program in sight. -/
section
set_option linter.all false
namespace Go.Sp
open Go.Av
theorem zeH {R:Type} {body:Nat→Unit→(Unit→Option R)→Option R} {ex:Unit→Option R} {n:Nat} {P:R→Prop} (good:Nat→Prop)
 (hb:∀ (i:Nat) (K:Option R),i<n→(∀ j,j<i→good j)→(good i→Wp K P)→Wp (body i () (fun _=>K)) P) (he:(∀ j,j<n→good j)→Wp (ex ()) P):Wp (zao body ex n 0 ()) P:=by
 refine zco (fun i _=>∀ j,j<i→good j) (fun j hj=>by omega) (fun i s K hi hI hK=>?_) (fun s hs=>he hs)
 have e:K=fun _=>K ():=funext fun u=>rfl
 rw [e]
 exact hb i (K ()) hi hI (fun g=>hK () (fun j hj=>by
  by_cases e:j=i
  · rw [e];exact g
  · exact hI j (by omega)))
theorem zoj {S R:Type} {W:Bool} {x y:Option S} {k:S→Option R} {P:R→Prop} {v:S} (hW:W=true) (h:x=some v) (hk:Wp (k v) P):Wp (zal (bif W then x else y) k) P:=by
 subst hW;rw [h];exact hk
theorem zgN {R:Type} {c:Prop} [Decidable c] (h:c) (x:Option R):must c x=x:=if_pos h
theorem zhL {T:Type} (l:List T) (i j:Nat) (x d:T) (hi:i<l.length):(l.set i x).getD j d=if j=i then x else l.getD j d:=by
 simp only [List.getD_eq_getElem?_getD]
 by_cases e:j=i
 · subst e;rw [List.getElem?_set_self hi,if_pos rfl];rfl
 · rw [List.getElem?_set_ne (fun h=>e h.symm),if_neg e]
theorem zcj {T:Type} (l:List T) (x d:T) (i:Nat):(l++[x]).getD i d=if i=l.length then x else l.getD i d:=by
 simp only [List.getD_eq_getElem?_getD]
 rcases Nat.lt_trichotomy i l.length with h|h|h
 · rw [List.getElem?_append_left h,if_neg (by omega)]
 · subst h;simp
 · rw [if_neg (by omega),List.getElem?_eq_none (by simp;omega),List.getElem?_eq_none (by omega)]
theorem zbq {T:Type} [Inhabited T] {l:List T} {i:Nat} (h:i<l.length):l.getD i default∈l:=by
 rw [List.getD_eq_getElem?_getD,List.getElem?_eq_getElem h];exact List.getElem_mem h
theorem zdv {T:Type} [Inhabited T] {l:List T} {x:T} (h:x∈l):∃ i,i<l.length∧l.getD i default=x:=by
 obtain ⟨i,hi,rfl⟩:=List.getElem_of_mem h
 exact ⟨i,hi,by rw [List.getD_eq_getElem?_getD,List.getElem?_eq_getElem hi];rfl⟩
theorem getD_drop {T:Type} (l:List T) (n i:Nat) (d:T):(l.drop n).getD i d=l.getD (n+i) d:=by
 simp only [List.getD_eq_getElem?_getD,List.getElem?_drop]
theorem zeO {T:Type} (l r:List T) (i:Nat) (d:T):(l++r).getD i d=if i<l.length then l.getD i d else r.getD (i - l.length) d:=by
 simp only [List.getD_eq_getElem?_getD]
 split
 · rename_i h;rw [List.getElem?_append_left h]
 · rename_i h;rw [List.getElem?_append_right (by omega)]
theorem znz {T:Type} [Inhabited T] {l r:List T} (hl:l.length=r.length) (h:∀ i,i<l.length→l.getD i default=r.getD i default):l=r:=by
 refine List.ext_getElem hl (fun i h1 h2=>?_)
 have:=h i h1
 rw [List.getD_eq_getElem?_getD,List.getD_eq_getElem?_getD,List.getElem?_eq_getElem h1,List.getElem?_eq_getElem h2] at this
 exact this
theorem zlE {S T:Type} {f:S→T}:∀ {l:List S},l.Nodup→(∀ x∈l,∀ y∈l,f x=f y→x=y)→(l.map f).Nodup
 | [],_,_=>List.nodup_nil
 | x::l,hn,hi=>by
  rw [List.nodup_cons] at hn
  rw [List.map_cons,List.nodup_cons]
  refine ⟨fun hm=>?_,zlE hn.2 (fun a ha b hb=>hi a (List.mem_cons_of_mem _ ha) b (List.mem_cons_of_mem _ hb))⟩
  obtain ⟨y,hy,e⟩:=List.mem_map.1 hm
  have:=hi x List.mem_cons_self y (List.mem_cons_of_mem _ hy) e.symm
  exact hn.1 (this▸hy)
theorem zn9 {A:Type} {body:Nat→Unit→(Unit→Option (List A))→Option (List A)} {n:Nat} (W:Nat→Bool) (x:Nat→A)
 (hb:∀ (i:Nat) (r:Option (List A)),i<n→body i () (fun _=>r)=zko (W i) (x i) r):zao body (fun _=>some []) n 0 ()=some (((List.range' 0 n).filter W).map x):=by
 have go:∀ m i,i+m=n→zao body (fun _=>some []) m i ()=some (((List.range' i m).filter W).map x):=by
  intro m
  induction m with
  | zero=>intro i _;rfl
  | succ m ih=>
   intro i hi
   have e:zao body (fun _=>some []) (m+1) i ()=body i () (fun u=>zao body (fun _=>some []) m (i+1) u):=rfl
   rw [e]
   have e2:(fun u=>zao body (fun _=>some ([]:List A)) m (i+1) u)=fun _=>some (((List.range' (i+1) m).filter W).map x):=by
    funext u;exact ih (i+1) (by omega)
   rw [e2,hb i _ (by omega),List.range'_succ,List.filter_cons]
   cases W i <;> rfl
 exact go n 0 (by omega)
end Go.Sp
end
/- Binary search, and insertion into a sorted list. No program in sight. -/
section
set_option linter.all false
namespace Go.Sp
open Go.Av
theorem zog {T:Type} [Inhabited T] (f:T→Int) {l:List T} (h:∀ i,0<i→i<l.length→f (l.getD (i - 1) default)<f (l.getD i default)):l.Pairwise (fun a b=>f a<f b):=by
 rw [List.pairwise_iff_getElem]
 intro i j hi hj hij
 have step:∀ k,i+1+k<l.length→f l[i]<f (l.getD (i+1+k) default):=by
  intro k
  induction k with
  | zero=>
   intro hk
   have:=h (i+1) (by omega) hk
   have e:l.getD (i+1 - 1) default=l[i]:=by simp [List.getElem?_eq_getElem hi]
   rw [e] at this;exact this
  | succ k ih=>
   intro hk
   have h1:=ih (by omega)
   have h2:=h (i+1+(k+1)) (by omega) hk
   have e:i+1+(k+1) - 1=i+1+k:=by omega
   rw [e] at h2;omega
 have:=step (j - i - 1) (by omega)
 have e:i+1+(j - i - 1)=j:=by omega
 rw [e] at this
 simpa [List.getElem?_eq_getElem hj] using this
theorem zjk {T:Type} [Inhabited T] {f:T→Int} {l:List T} (hs:l.Pairwise (fun a b=>f a<f b)) {i j:Nat} (hij:i<j) (hj:j<l.length):f (l.getD i default)<f (l.getD j default):=by
 have:=List.pairwise_iff_getElem.1 hs i j (by omega) hj hij
 simpa [List.getElem?_eq_getElem hj,List.getElem?_eq_getElem (show i<l.length by omega)] using this
end Go.Sp
end
/- slices.IndexFunc and slices.DeleteFunc, as they are printed. No program in sight. -/
section
set_option linter.all false
namespace Go.Sp
open Go.Av
set_option maxRecDepth 100000
theorem zgj {T:Type} [Inhabited T] {p:T→Option Bool} {q:T→Bool} (hp:∀ x,p x=some (q x)) (l:List T) :
 (zao (fun i1 (s1:Unit) k1=>zal (p (l.getD i1 default)) fun y3=>(bif y3 then some (i1:Int) else k1 ())) (fun (s1:Unit)=>some (-1)) l.length 0 ():Option Int)=some (match l.findIdx? q with|some i=>(i:Int)|none=>-1):=by
 refine (zeH (P:=fun r=>r=(match l.findIdx? q with|some i=>(i:Int)|none=>-1)) (fun i=>q (l.getD i default)=false) (fun i K hi hb hK=>?_) (fun h1=>?_)).eq
 · rw [hp]
   refine zcx (fun h=>zat ?_) (fun h=>hK h)
   have:l.findIdx? q=some i:=by
    rw [List.findIdx?_eq_some_iff_getElem]
    refine ⟨hi,?_,fun j hj=>?_⟩
    · rw [List.getD_eq_getElem?_getD,List.getElem?_eq_getElem hi] at h;exact h
    · have:=hb j hj
      rw [List.getD_eq_getElem?_getD,List.getElem?_eq_getElem (by omega)] at this
      simpa using this
   rw [this]
 · refine zat ?_
   have:l.findIdx? q=none:=by
    rw [List.findIdx?_eq_none_iff]
    intro x hx
    obtain ⟨i,hi,rfl⟩:=zdv hx
    exact h1 i hi
   rw [this]
end Go.Sp
end
/- Plain laws, mantle: valid batches, mantles, burns, looks and wears, checked by both. No program in sight. -/
section
set_option linter.all false
namespace Go.Sp
open Go.Av
set_option maxRecDepth 100000
structure BatchOk (b:Batch):Prop where
 id:1≤b.Id∧b.Id≤99
 life:0≤b.Life.Lo∧b.Life.Lo≤b.Life.Hi∧b.Life.Hi≤1000000
structure ToldOk (s l n k u:Int):Prop where
 src:1≤s∧s≤99999
 lamp:1≤l∧l≤999
 night:0≤n∧n≤100000
 known:0≤k∧k≤100000
 til:u=0∨(k<u∧u≤100000)
structure MantleOk (m:Mantle):Prop where
 told:ToldOk m.Source m.Lamp m.Night m.Known m.Until
 batch:1≤m.Batch∧m.Batch≤99
structure BurnOk (b:Burn):Prop where
 told:ToldOk b.Source b.Lamp b.Night b.Known b.Until
 min:0≤b.Minutes.Lo∧b.Minutes.Lo≤b.Minutes.Hi∧b.Minutes.Hi≤1440
def zky (l:Look):Prop:=ToldOk l.Source l.Lamp l.Night l.Known l.Until
theorem mwithin {a b c:Int}:zay a b c=(decide (b≤a) && decide (a≤c)):=rfl
theorem bif0 (b:Bool) {c:Int} (hc:c≠0):((bif b then c else 0)=0)↔b=false:=by cases b <;> simp [-List.getD_eq_getElem?_getD,hc]
theorem zpt (b:Bool) (c:Int):(bif b then c else 0)=0∨(bif b then c else 0)=c:=by cases b <;> simp [-List.getD_eq_getElem?_getD]
theorem zgF {n k u:Int}:za7 n k u=true↔(0≤n∧n≤100000)∧(0≤k∧k≤100000)∧(u=0∨(k<u∧u≤100000)):=by
 simp only [za7,zaK,mwithin,Bool.and_eq_true,Bool.or_eq_true,decide_eq_true_eq]
 omega
theorem zjx {b:Batch}:zaY b=0↔BatchOk b:=by
 unfold zaY
 rw [bif0 _ (by decide)]
 simp only [zbK,mwithin,Bool.or_eq_false_iff,Bool.not_eq_false',Bool.and_eq_true,decide_eq_true_eq]
 exact ⟨fun h=>⟨h.1,by omega⟩,fun h=>⟨h.id,by have:=h.life;omega⟩⟩
theorem zlI {m:Mantle}:zbd m=0↔MantleOk m:=by
 unfold zbd
 rw [bif0 _ (by decide)]
 simp only [za1,zaJ,mwithin,Bool.or_eq_false_iff,Bool.not_eq_false',Bool.and_eq_true,decide_eq_true_eq,zgF]
 exact ⟨fun h=>⟨⟨h.1.1.1,h.1.1.2,h.2.1,h.2.2.1,h.2.2.2⟩,h.1.2⟩,fun h=>⟨⟨⟨h.told.src,h.told.lamp⟩,h.batch⟩,h.told.night,h.told.known,h.told.til⟩⟩
theorem zn1 {m:Burn}:zbt m=0↔BurnOk m:=by
 unfold zbt
 rw [bif0 _ (by decide)]
 simp only [za1,zaJ,zbK,mwithin,Bool.or_eq_false_iff,Bool.not_eq_false',Bool.and_eq_true,decide_eq_true_eq,zgF]
 exact ⟨fun h=>⟨⟨h.1.1.1,h.1.1.2,h.2.1,h.2.2.1,h.2.2.2⟩,by have:=h.1.2;omega⟩,fun h=>⟨⟨⟨h.told.src,h.told.lamp⟩,by have:=h.min;omega⟩,h.told.night,h.told.known,h.told.til⟩⟩
theorem zn0 {m:Look}:za9 m=0↔zky m:=by
 unfold za9
 rw [bif0 _ (by decide)]
 simp only [za1,zaJ,mwithin,Bool.or_eq_false_iff,Bool.not_eq_false',Bool.and_eq_true,decide_eq_true_eq,zgF]
 exact ⟨fun h=>⟨h.1.1,h.1.2,h.2.1,h.2.2.1,h.2.2.2⟩,fun h=>⟨⟨h.src,h.lamp⟩,h.night,h.known,h.til⟩⟩
theorem zqM (b:Batch):zbj b=zaY b:=by
 have h:zbj b=0↔BatchOk b:=by
  unfold zbj
  rw [bif0 _ (by decide)]
  simp only [zaF,Bool.or_eq_false_iff,Bool.not_eq_false',Bool.and_eq_true,decide_eq_true_eq,decide_eq_false_iff_not]
  exact ⟨fun h=>⟨h.1.1,by omega⟩,fun h=>⟨⟨h.id,by have:=h.life;omega⟩,by have:=h.life;omega⟩⟩
 rw [← zjx] at h
 have h1:=zpt (((!(zaF b.Id 1 99)) || (!(zaF b.Life.Lo 0 b.Life.Hi))) || (decide (1000000<b.Life.Hi))) 60
 have h2:=zpt ((!(zay b.Id 1 99)) || (!(zbK b.Life 1000000))) 60
 change zbj b=0∨zbj b=60 at h1
 change zaY b=0∨zaY b=60 at h2
 omega
def zfY {T:Type} [Inhabited T] (ok:T→Prop) (num:T→Int) (l:List T):Prop:=∀ i,i<l.length→ok (l.getD i default)∧(0<i→num (l.getD (i - 1) default)<num (l.getD i default))
theorem zgX {T:Type} [Inhabited T] {chk num:T→Int} {ok:T→Prop} (hok:∀ x,chk x=0↔ok x) {l:List T} {p1:Int} (hl:l.length≤9223372036854775807) :
 Wp (zao (fun i1 (s1:Unit) k1=>zal ((fun x0=>some (chk x0)) (l.getD i1 default)) fun y3=>must ((((!(!decide (y3=0))) && (decide (0<(i1:Int))))=true→(inI ((i1:Int) - 1)))) <| must ((((!(!decide (y3=0))) && (decide (0<(i1:Int))))=true→(0≤(((i1:Int) - 1):Int)∧(((i1:Int) - 1):Int)<((l.length:Nat):Int)))) <| zal ((bif ((!(!decide (y3=0))) && (decide (0<(i1:Int)))) then (fun x0=>some (num x0)) (l.getD (((i1:Int) - 1)).toNat default) else some default)) fun y7=>zal ((bif ((!(!decide (y3=0))) && (decide (0<(i1:Int)))) then (fun x0=>some (num x0)) (l.getD i1 default) else some default)) fun y9=>(bif ((!decide (y3=0)) || ((decide (0<(i1:Int))) && (decide (y9≤y7)))) then some false else k1 ())) (fun (s1:Unit)=>some (decide (((l.length:Nat):Int)≤p1))) l.length 0 ():Option Bool)
  (fun b=>b=true↔zfY ok num l∧(l.length:Int)≤p1):=by
 refine zeH (fun i=>ok (l.getD i default)∧(0<i→num (l.getD (i - 1) default)<num (l.getD i default))) (fun i K hi _ hK=>?_) (fun h1=>zat ?_)
 · refine zau rfl ?_
   refine zaq (fun _=>by unfold inI;omega) ?_
   refine zaq (fun h=>by simp [-List.getD_eq_getElem?_getD] at h;omega) ?_
   have e:(((i:Int) - 1)).toNat=i - 1:=by omega
   rw [e]
   refine zkC (Q:=fun y=>y=num (l.getD (i - 1) default)) (fun _=>zat rfl) (fun y7 h7=>?_)
   refine zkC (Q:=fun y=>y=num (l.getD i default)) (fun _=>zat rfl) (fun y9 h9=>?_)
   by_cases hc:chk (l.getD i default)=0
   · by_cases h0:0<i
     · have hW:((!(!decide (chk (l.getD i default)=0))) && (decide (0<(i:Int))))=true:=by simp [-List.getD_eq_getElem?_getD,hc,h0]
       rw [h7 hW,h9 hW]
       refine zcx (fun hb=>zat ?_) (fun hb=>hK ⟨(hok _).1 hc,fun _=>?_⟩)
       · simp only [hc,decide_true,Bool.not_true,Bool.false_or,Bool.and_eq_true,decide_eq_true_eq] at hb
         refine ⟨fun h=>(by cases h),fun h=>?_⟩
         have:=(h.1 i hi).2 h0;omega
       · simp only [hc,decide_true,Bool.not_true,Bool.false_or,Bool.and_eq_false_iff,decide_eq_false_iff_not] at hb
         omega
     · refine zaL (by simp [-List.getD_eq_getElem?_getD,hc];omega) (hK ⟨(hok _).1 hc,fun h=>absurd h h0⟩)
   · refine zcs (by simp [-List.getD_eq_getElem?_getD,hc]) (zat ⟨fun h=>(by cases h),fun h=>absurd ((hok _).2 (h.1 i hi).1) hc⟩)
 · simp only [decide_eq_true_eq]
   exact ⟨fun h=>⟨h1,h⟩,fun h=>h.2⟩
structure WearOk (w:Wear):Prop where
 nb:w.Batches.length≤8
 nm:w.Mantles.length≤60
 nu:w.Burns.length≤60
 nl:w.Looks.length≤60
 ba:zfY BatchOk (·.Id) w.Batches
 ma:zfY MantleOk (·.Source) w.Mantles
 bu:zfY BurnOk (·.Source) w.Burns
 lo:zfY zky (·.Source) w.Looks
 has:∀ i,i<w.Mantles.length→∃ j,j<w.Batches.length∧(w.Batches.getD j default).Id=(w.Mantles.getD i default).Batch
structure Fits (w:Wear):Prop where
 b:w.Batches.length≤4611686018427387904
 m:w.Mantles.length≤4611686018427387904
 u:w.Burns.length≤4611686018427387904
 l:w.Looks.length≤4611686018427387904
theorem WearOk.fits {w:Wear} (h:WearOk w):Fits w:=⟨by have:=h.nb;omega,by have:=h.nm;omega,by have:=h.nu;omega,by have:=h.nl;omega⟩
def zdh (w:Wear) (id:Int):Int:=match w.Batches.findIdx? (fun b=>decide (b.Id=id)) with
 | some i=>(i:Int)
 | none=>-1
theorem zgV (w:Wear) (id:Int):zb0 w id=some (zdh w id):=by
 unfold zb0 zcb
 rw [zgj (p:=fun x0=>some (zcc x0 id)) (q:=fun b=>decide (b.Id=id)) (fun x=>rfl)]
 rfl
theorem zgW {w:Wear} {id:Int}:zdh w id<0↔¬ ∃ j,j<w.Batches.length∧(w.Batches.getD j default).Id=id:=by
 unfold zdh
 cases h:w.Batches.findIdx? (fun b=>decide (b.Id=id)) with
 | none=>
  rw [List.findIdx?_eq_none_iff] at h
  simp only [Int.reduceNeg,Int.reduceLT,true_iff]
  rintro ⟨j,hj,e⟩
  have:=h _ (zbq hj)
  simp [-List.getD_eq_getElem?_getD,e] at this
 | some i=>
  rw [List.findIdx?_eq_some_iff_getElem] at h
  obtain ⟨h1,h2,h3⟩:=h
  refine ⟨fun h=>by simp [-List.getD_eq_getElem?_getD] at h;omega,fun h=>absurd ⟨i,h1,?_⟩ h⟩
  rw [List.getD_eq_getElem?_getD,List.getElem?_eq_getElem h1]
  simpa [-List.getD_eq_getElem?_getD] using h2
theorem zjU (w:Wear) (id:Int):zdh w id<(w.Batches.length:Int):=by
 unfold zdh
 cases h:w.Batches.findIdx? (fun b=>decide (b.Id=id)) with
 | none=>simp [-List.getD_eq_getElem?_getD];omega
 | some i=>
  rw [List.findIdx?_eq_some_iff_getElem] at h
  obtain ⟨h1,h2,h3⟩:=h
  simp [-List.getD_eq_getElem?_getD];omega
theorem zmf {w:Wear} {id:Int} (h:0≤zdh w id):(w.Batches.getD (zdh w id).toNat default).Id=id:=by
 unfold zdh at h ⊢
 cases h':w.Batches.findIdx? (fun b=>decide (b.Id=id)) with
 | none=>rw [h'] at h;simp [-List.getD_eq_getElem?_getD] at h
 | some i=>
  rw [List.findIdx?_eq_some_iff_getElem] at h'
  obtain ⟨h1,h2,h3⟩:=h'
  simp only [Int.toNat_natCast]
  rw [List.getD_eq_getElem?_getD,List.getElem?_eq_getElem h1]
  simpa [-List.getD_eq_getElem?_getD] using h2
theorem zfY.sorted {T:Type} [Inhabited T] {ok:T→Prop} {num:T→Int} {l:List T} (h:zfY ok num l):l.Pairwise (fun a b=>num a<num b):=zog num (fun i h0 hi=>(h i hi).2 h0)
theorem zfY.ok {T:Type} [Inhabited T] {ok:T→Prop} {num:T→Int} {l:List T} (h:zfY ok num l) {x:T} (hx:x∈l):ok x:=by
 obtain ⟨i,hi,rfl⟩:=zdv hx
 exact (h i hi).1
theorem zfY.inj {T:Type} [Inhabited T] {ok:T→Prop} {num:T→Int} {l:List T} (h:zfY ok num l) {i j:Nat} (hi:i<l.length) (hj:j<l.length) (e:num (l.getD i default)=num (l.getD j default)):i=j:=by
 rcases Nat.lt_trichotomy i j with h1|h1|h1
 · have:=zjk h.sorted h1 hj;omega
 · exact h1
 · have:=zjk h.sorted h1 hi;omega
theorem zlH {w:Wear} (hf:Fits w):Wp (zb1 w) (fun r=>(WearOk w∧r=0)∨(¬ WearOk w∧r=64)):=by
 unfold zb1
 have a1:=zgX (chk:=zaY) (num:=zcM) (fun _=>zjx) (l:=w.Batches) (p1:=8) (by have:=hf.b;omega)
 have a2:=zgX (chk:=zbd) (num:=zcL) (fun _=>zlI) (l:=w.Mantles) (p1:=60) (by have:=hf.m;omega)
 have a3:=zgX (chk:=zbt) (num:=zcK) (fun _=>zn1) (l:=w.Burns) (p1:=60) (by have:=hf.u;omega)
 have a4:=zgX (chk:=za9) (num:=zdf) (fun _=>zn0) (l:=w.Looks) (p1:=60) (by have:=hf.l;omega)
 refine wp_bind (x:=zcr w.Batches 8 _ _) a1 (fun y1 h1=>?_)
 refine wp_bind (x:=zci w.Mantles 60 _ _) a2 (fun y3 h3=>?_)
 refine wp_bind (x:=zcz w.Burns 60 _ _) a3 (fun y5 h5=>?_)
 refine zkC (Q:=fun y=>y=true↔zfY zky (·.Source) w.Looks∧(w.Looks.length:Int)≤60) (fun _=>a4) (fun y7 h7=>?_)
 refine zkC (Q:=fun y=>y=false↔∀ i,i<w.Mantles.length→∃ j,j<w.Batches.length∧(w.Batches.getD j default).Id=(w.Mantles.getD i default).Batch) (fun _=>?_) (fun y9 h9=>?_)
 · unfold zbw zbW
   rw [zgj (p:=fun x0=>zcJ x0 w) (q:=fun m=>decide (zdh w m.Batch<0)) (fun x=>by
    unfold zcJ;rw [zgV];rfl)]
   refine zau rfl (zat ?_)
   cases h:w.Mantles.findIdx? (fun m=>decide (zdh w m.Batch<0)) with
   | none=>
    rw [List.findIdx?_eq_none_iff] at h
    refine ⟨fun _ i hi=>?_,fun _=>rfl⟩
    have:=h _ (zbq hi)
    simp only [decide_eq_false_iff_not,zgW,Classical.not_not] at this
    exact this
   | some i=>
    rw [List.findIdx?_eq_some_iff_getElem] at h
    obtain ⟨k1,k2,k3⟩:=h
    refine ⟨fun e=>(by simp [-List.getD_eq_getElem?_getD] at e),fun e=>?_⟩
    have:=e i k1
    rw [List.getD_eq_getElem?_getD (l:=w.Mantles),List.getElem?_eq_getElem k1] at this
    simp only [decide_eq_true_eq,zgW] at k2
    exact absurd this k2
 · refine zcx (fun hb=>zat (.inr ⟨fun V=>?_,rfl⟩)) (fun hb=>zat (.inl ⟨?_,rfl⟩))
   · have e1:=h1.2 ⟨V.ba,by have:=V.nb;omega⟩
     have e3:=h3.2 ⟨V.ma,by have:=V.nm;omega⟩
     have e5:=h5.2 ⟨V.bu,by have:=V.nu;omega⟩
     have e7:=(h7 (by simp [-List.getD_eq_getElem?_getD,e1,e3,e5])).2 ⟨V.lo,by have:=V.nl;omega⟩
     have e9:=(h9 (by simp [-List.getD_eq_getElem?_getD,e1,e3,e5,e7])).2 V.has
     simp [-List.getD_eq_getElem?_getD,e1,e3,e5,e7,e9] at hb
   · simp only [Bool.or_eq_false_iff,Bool.not_eq_false'] at hb
     obtain ⟨⟨⟨⟨e1,e3⟩,e5⟩,e7⟩,e9⟩:=hb
     have f7:=(h7 (by simp [-List.getD_eq_getElem?_getD,e1,e3,e5])).1 e7
     have f9:=(h9 (by simp [-List.getD_eq_getElem?_getD,e1,e3,e5,e7])).1 e9
     have f1:=h1.1 e1
     have f3:=h3.1 e3
     have f5:=h5.1 e5
     exact ⟨by omega,by omega,by omega,by omega,f1.1,f3.1,f5.1,f7.1,f9⟩
theorem zhI {w:Wear} (h:WearOk w):zb1 w=some 0:=by
 obtain ⟨r,e,h1|h1⟩:=zlH h.fits
 · rw [e,h1.2]
 · exact absurd h h1.1
theorem znZ {w:Wear} (hf:Fits w) (h:¬ WearOk w):zb1 w=some 64:=by
 obtain ⟨r,e,h1|h1⟩:=zlH hf
 · exact absurd h1.1 h
 · rw [e,h1.2]
end Go.Sp
end
/- Plain laws, mantle: the document's check; one look more, by both; MantleChecks. No program in sight. -/
section
set_option linter.all false
namespace Go.Sp
open Go.Av
set_option maxRecDepth 100000
theorem zh6 {R:Type} {body:Int→(Int→Option R)→Option R} {fuel:Nat} {P:R→Prop} {n:Nat} (hf:n<fuel) (good:Nat→Prop)
 (hb:∀ (i:Nat) (K:Int→Option R),i<n→(∀ j,j<i→good j)→(good i→Wp (K ((i:Int)+1)) P)→Wp (body (i:Int) K) P) (he:(∀ j,j<n→good j)→∀ K,Wp (body (n:Int) K) P):Wp (loopGo body fuel 0) P:=by
 refine zqG n hf (fun i=>∀ j,j<i→good j) (fun j hj=>by omega) (fun i K hi hI hK=>?_)
 by_cases e:i=n
 · subst e;exact he hI K
 · exact hb i K (by omega) hI (fun g=>hK (by omega) (fun j hj=>by
    by_cases e:j=i
    · rw [e];exact g
    · exact hI j (by omega)))
end Go.Sp
end
/- Plain laws, mantle: the chapter's examples. -/
section
set_option linter.all false
namespace Go.Sp
open Go.Av
theorem zop:zdS 20000=some true:=by kernel_rfl
end Go.Sp
end
/- Plain laws, mantle: one look more, by both; MantleChecks. No program in sight. -/
section
set_option linter.all false
namespace Go.Sp
open Go.Av
set_option maxRecDepth 100000
theorem cmpI (a b:Int):zbr a b=if a<b then -1 else if b<a then 1 else 0:=by
 unfold zbr cmp_isNaN_int
 by_cases h1:a<b
 · simp [-List.getD_eq_getElem?_getD,h1]
 · by_cases h2:b<a <;> simp [-List.getD_eq_getElem?_getD,h1,h2]
structure InsAt (l:List Look) (x:Look) (k:Nat):Prop where
 le:k≤l.length
 lo:∀ i,i<k→(l.getD i default).Source<x.Source
 hi:∀ i,k≤i→i<l.length→¬ (l.getD i default).Source<x.Source
def zpj:Wear:=⟨[],[],[],[]⟩
end Go.Sp
end
/- Plain laws: slices.SortStableFunc on ints ends, and what it leaves is a rearrangement. No program in sight. -/
section
set_option linter.all false
namespace Go.Sp
open Go.Av
set_option maxRecDepth 100000
theorem swap_perm {l s:List Int} (h:s.Perm l) {i j:Int} (hi:0≤i∧i<(s.length:Int)) (hj:0≤j∧j<(s.length:Int)) :
 ((s.set i.toNat (s.getD j.toNat default)).set j.toNat (s.getD i.toNat default)).Perm l:=by
 have h1:i.toNat<s.length:=by omega
 have h2:j.toNat<s.length:=by omega
 rw [List.getD_eq_getElem?_getD,List.getElem?_eq_getElem h2,List.getD_eq_getElem?_getD,List.getElem?_eq_getElem h1]
 exact (List.set_set_perm h1 h2).trans h
theorem half {x:Int} (h:0≤x):Int.fdiv x (2 ^ (1:Int).toNat)=x / 2:=by
 rw [show (1:Int).toNat=1 from rfl,Int.fdiv_eq_ediv_of_nonneg _ (by decide)];rfl
theorem zjw {l s:List Int} (h:s.Perm l) {i:Nat} (hi:i<s.length):s.getD i default∈l:=h.mem_iff.1 (zbq hi)
def Cmp (l:List Int) (c:Int→Int→Option Int):Prop:=∀ a∈l,∀ b∈l,∃ r,c a b=some r
theorem Cmp.perm {l s:List Int} {c:Int→Int→Option Int} (H:Cmp l c) (h:s.Perm l):Cmp s c:=fun a ha b hb=>H a (h.mem_iff.1 ha) b (h.mem_iff.1 hb)
theorem ziO {fuel:Nat} (hf:1000≤fuel) {l:List Int} (hl:l.length≤100) {c:Int→Int→Option Int} (H:Cmp l c) {a b:Int} (ha:0≤a∧a≤1000) (hb:b≤(l.length:Int)) :
 Wp (zaM fuel l a b c) (fun r=>r.Perm l):=by
 unfold zaM
 refine zai (by omega) ?_
 refine wp_loop (fun s=>a<s.1∧s.2.Perm l) (fun s=>(b - s.1).toNat) (by simp only;omega) ⟨by simp only;omega,.refl _⟩ (fun s K hI hK=>?_)
 obtain ⟨i,s⟩:=s
 obtain ⟨h1,h2⟩:=hI
 simp only at h1 h2 hK ⊢
 refine zbI (fun hlt=>?_) (fun _=>zat h2)
 refine wp_loop (fun t=>a≤t.1∧t.1≤i∧t.2.Perm l) (fun t=>(t.1 - a).toNat) (by simp only;omega) ⟨by simp only;omega,by simp only;omega,h2⟩ (fun t K2 hI2 hK2=>?_)
 obtain ⟨j,t⟩:=t
 obtain ⟨g1,g2,g3⟩:=hI2
 simp only at g1 g2 g3 hK2 ⊢
 have hlen:=g3.length_eq
 refine zaq (fun h=>by have:=of_decide_eq_true h;omega) (zaq (fun h=>by unfold inI;omega) (zaq (fun h=>by have:=of_decide_eq_true h;omega) ?_))
 refine zkC (Q:=fun _=>True) (fun h=>?_) (fun y _=>?_)
 · have:=of_decide_eq_true h
   obtain ⟨r,e⟩:=H _ (zjw g3 (i:=j.toNat) (by omega)) _ (zjw g3 (i:=(j - 1).toNat) (by omega))
   exact ⟨r,e,trivial⟩
 refine zcx (fun h=>?_) (fun h=>zai (by omega) (hK _ ⟨by simp only;omega,g3⟩ (by simp only;omega)))
 simp only [Bool.and_eq_true,decide_eq_true_eq] at h
 refine zai (by omega) (zai (by omega) (zaq (by omega) (zaq (by omega) (zaq (by omega) (zaq (by rw [List.length_set];omega) (zai (by omega) ?_))))))
 exact hK2 _ ⟨by simp only;omega,by simp only;omega,swap_perm g3 (by omega) (by omega)⟩ (by simp only;omega)
theorem zf8 {fuel:Nat} (hf:1000≤fuel) {l:List Int} (hl:l.length≤100) {c:Int→Int→Option Int} {a b n:Int} (ha:0≤a) (hb:0≤b) (han:a+n≤(l.length:Int)) (hbn:b+n≤(l.length:Int)) :
 Wp (zaO fuel l a b n c) (fun r=>r.Perm l):=by
 unfold zaO
 refine wp_loop (fun s=>0≤s.1∧s.2.Perm l) (fun s=>(n - s.1).toNat) (by simp only;omega) ⟨by simp [-List.getD_eq_getElem?_getD],.refl _⟩ (fun s K hI hK=>?_)
 obtain ⟨i,s⟩:=s
 obtain ⟨h1,h2⟩:=hI
 simp only at h1 h2 hK ⊢
 have hlen:=h2.length_eq
 refine zbI (fun hlt=>?_) (fun _=>zat h2)
 refine zai (by omega) (zai (by omega) (zai (by omega) (zaq (by omega) (zai (by omega) (zaq (by omega) (zaq (by omega) (zaq (by rw [List.length_set];omega) (zai (by omega) ?_))))))))
 exact hK _ ⟨by simp only;omega,swap_perm h2 (by omega) (by omega)⟩ (by simp only;omega)
theorem zou {fuel:Nat} (hf:1000≤fuel) {l:List Int} (hl:l.length≤100) {c:Int→Int→Option Int} {a m b:Int} (ha:0≤a) (ham:a<m) (hmb:m<b) (hb:b≤(l.length:Int)) :
 Wp (zbb fuel l a m b c) (fun r=>r.Perm l):=by
 unfold zbb
 refine zai (by omega) (zai (by omega) ?_)
 refine wp_loop (fun s=>1≤s.1∧s.1≤m - a∧1≤s.2.1∧s.2.1≤b - m∧s.2.2.Perm l) (fun s=>(s.1+s.2.1).toNat) (by simp only;omega) ⟨by simp only;omega,by simp only;omega,by simp only;omega,by simp only;omega,.refl _⟩ (fun s K hI hK=>?_)
 obtain ⟨i,j,s⟩:=s
 obtain ⟨h1,h2,h3,h4,h5⟩:=hI
 simp only at h1 h2 h3 h4 h5 hK ⊢
 have hlen:=h5.length_eq
 refine zg7 (fun hne=>?_) (fun he=>?_)
 · refine zbI (fun hlt=>?_) (fun hge=>?_)
   · refine zai (by omega) (wp_bind (zf8 hf (by omega) (by omega) (by omega) (by omega) (by omega)) (fun y hy=>zaq hy.length_eq (zai (by omega) (hK _ ⟨by simp only;omega,by simp only;omega,by simp only;omega,by simp only;omega,hy.trans h5⟩ (by simp only;omega)))))
   · refine zai (by omega) (zai (by omega) (zai (by omega) (wp_bind (zf8 hf (by omega) (by omega) (by omega) (by omega) (by omega)) (fun y hy=>zaq hy.length_eq (zai (by omega) (hK _ ⟨by simp only;omega,by simp only;omega,by simp only;omega,by simp only;omega,hy.trans h5⟩ (by simp only;omega)))))))
 · exact zai (by omega) (wp_bind (zf8 hf (by omega) (by omega) (by omega) (by omega) (by omega)) (fun y hy=>zat (hy.trans h5)))
theorem zfC {fuel:Nat} (hf:1000≤fuel) {c:Int→Int→Option Int}:∀ (n:Nat) {l:List Int},l.length≤100→Cmp l c→∀ {a m b:Int},0≤a→a<m→m<b→b≤(l.length:Int)→(b - a).toNat<n →
 Wp (zaQ fuel n l a m b c) (fun r=>r.Perm l)
 | 0,l,_,_,a,m,b,_,_,_,_,hn=>absurd hn (Nat.not_lt_zero _)
 | n+1,l,hl,H,a,m,b,ha,ham,hmb,hb,hn=>by
  show Wp (zaZ fuel (zaQ fuel n) l a m b c) _
  unfold zaZ
  have hc:∀ i j:Int,0≤i→i<(l.length:Int)→0≤j→j<(l.length:Int)→Wp (c (l.getD i.toNat default) (l.getD j.toNat default)) (fun _=>True):=fun i j h1 h2 h3 h4=>by
   obtain ⟨r,e⟩:=H _ (zbq (l:=l) (i:=i.toNat) (by omega)) _ (zbq (l:=l) (i:=j.toNat) (by omega))
   exact ⟨r,e,trivial⟩
  refine zai (by omega) ?_
  refine zbI (fun e1=>?_) (fun e1=>?_)
  · refine wp_loop (fun s=>m≤s.1∧s.1≤s.2∧s.2≤b) (fun s=>(s.2 - s.1).toNat) (by simp only;omega) ⟨by simp only;omega,by simp only;omega,by simp [-List.getD_eq_getElem?_getD]⟩ (fun s K hI hK=>?_)
    obtain ⟨i,j⟩:=s
    obtain ⟨h1,h2,h3⟩:=hI
    simp only at h1 h2 h3 hK ⊢
    refine zbI (fun hlt=>?_) (fun hge=>?_)
    · rw [half (by omega)]
      refine zai (by omega) (zaq (by unfold inU;omega) (zai (by omega) (zaq (by omega) (zaq (by omega) (wp_bind (hc _ _ (by omega) (by omega) (by omega) (by omega)) (fun y _=>?_))))))
      refine zbI (fun _=>zai (by omega) (hK _ ⟨by simp only;omega,by simp only;omega,by simp only;omega⟩ (by simp only;omega))) (fun _=>hK _ ⟨by simp only;omega,by simp only;omega,by simp only;omega⟩ (by simp only;omega))
    · refine wp_loop (fun s=>0≤s.1∧s.2.Perm l) (fun s=>(b - s.1).toNat) (by simp only;omega) ⟨by simp only;omega,.refl _⟩ (fun s K2 hI2 hK2=>?_)
      obtain ⟨k,s⟩:=s
      obtain ⟨g1,g2⟩:=hI2
      simp only at g1 g2 hK2 ⊢
      have hlen:=g2.length_eq
      refine zai (by omega) (zbI (fun hk=>?_) (fun _=>zat g2))
      refine zai (by omega) (zai (by omega) (zaq (by omega) (zaq (by omega) (zaq (by omega) (zaq (by rw [List.length_set];omega) (zai (by omega) ?_))))))
      exact hK2 _ ⟨by simp only;omega,swap_perm g2 (by omega) (by omega)⟩ (by simp only;omega)
  refine zai (by omega) ?_
  refine zbI (fun e2=>?_) (fun e2=>?_)
  · refine wp_loop (fun s=>a≤s.1∧s.1≤s.2∧s.2≤m) (fun s=>(s.2 - s.1).toNat) (by simp only;omega) ⟨by simp [-List.getD_eq_getElem?_getD],by simp only;omega,by simp [-List.getD_eq_getElem?_getD]⟩ (fun s K hI hK=>?_)
    obtain ⟨i,j⟩:=s
    obtain ⟨h1,h2,h3⟩:=hI
    simp only at h1 h2 h3 hK ⊢
    refine zbI (fun hlt=>?_) (fun hge=>?_)
    · rw [half (by omega)]
      refine zai (by omega) (zaq (by unfold inU;omega) (zai (by omega) (zaq (by omega) (zaq (by omega) (wp_bind (hc _ _ (by omega) (by omega) (by omega) (by omega)) (fun y _=>?_))))))
      refine zg7 (fun _=>zai (by omega) (hK _ ⟨by simp only;omega,by simp only;omega,by simp only;omega⟩ (by simp only;omega))) (fun _=>hK _ ⟨by simp only;omega,by simp only;omega,by simp only;omega⟩ (by simp only;omega))
    · refine wp_loop (fun s=>s.1≤m∧s.2.Perm l) (fun s=>(s.1 - i).toNat) (by simp only;omega) ⟨by simp [-List.getD_eq_getElem?_getD],.refl _⟩ (fun s K2 hI2 hK2=>?_)
      obtain ⟨k,s⟩:=s
      obtain ⟨g1,g2⟩:=hI2
      simp only at g1 g2 hK2 ⊢
      have hlen:=g2.length_eq
      refine zbI (fun hk=>?_) (fun _=>zat g2)
      refine zai (by omega) (zai (by omega) (zaq (by omega) (zaq (by omega) (zaq (by omega) (zaq (by rw [List.length_set];omega) (zai (by omega) ?_))))))
      exact hK2 _ ⟨by simp only;omega,swap_perm g2 (by omega) (by omega)⟩ (by simp only;omega)
  rw [half (by omega)]
  refine zai (by omega) (zaq (by unfold inU;omega) (zai (by omega) (zai (by omega) ?_)))
  have hmid:a<(a+b) / 2∧(a+b) / 2<b:=by omega
  generalize hmd:(a+b) / 2=mid at hmid ⊢
  have hm2:2 * mid≤a+b∧a+b≤2 * mid+1:=by omega
  refine ze9 (fun s=>a≤s.1∧mid+m - b≤s.1∧s.1≤s.2∧(s.2=mid∧mid<m∨s.2=m∧m≤mid)) (fun K hK=>?_) (fun s hs=>?_)
  · refine zbI (fun h=>zai (by omega) (hK _ ⟨by simp only;omega,by simp only;omega,by simp only;omega,.inl ⟨rfl,h⟩⟩)) (fun h=>hK _ ⟨by simp [-List.getD_eq_getElem?_getD],by simp only;omega,by simp only;omega,.inr ⟨rfl,by omega⟩⟩)
  obtain ⟨st,r⟩:=s
  obtain ⟨s1,s2,s3,s4⟩:=hs
  simp only at s1 s2 s3 s4 ⊢
  refine zai (by omega) ?_
  refine wp_loop (fun s=>st≤s.1∧s.1≤s.2∧s.2≤r) (fun s=>(s.2 - s.1).toNat) (by simp only;omega) ⟨by simp [-List.getD_eq_getElem?_getD],s3,by simp [-List.getD_eq_getElem?_getD]⟩ (fun s K hI hK=>?_)
  obtain ⟨i,j⟩:=s
  obtain ⟨h1,h2,h3⟩:=hI
  simp only at h1 h2 h3 hK ⊢
  refine zbI (fun hlt=>?_) (fun hge=>?_)
  · rw [half (by omega)]
    refine zai (by omega) (zaq (by unfold inU;omega) (zai (by omega) (zai (by omega) (zaq (by omega) (zaq (by omega) (wp_bind (hc _ _ (by omega) (by omega) (by omega) (by omega)) (fun y _=>?_)))))))
    refine zg7 (fun _=>zai (by omega) (hK _ ⟨by simp only;omega,by simp only;omega,by simp only;omega⟩ (by simp only;omega))) (fun _=>hK _ ⟨by simp only;omega,by simp only;omega,by simp only;omega⟩ (by simp only;omega))
  refine zai (by omega) ?_
  refine ze9 (fun s=>s.Perm l) (fun K hK=>?_) (fun s hs=>?_)
  · refine zcx (fun h=>?_) (fun h=>hK _ (.refl _))
    simp only [Bool.and_eq_true,decide_eq_true_eq] at h
    exact wp_bind (zou hf hl (by omega) (by omega) (by omega) (by omega)) (fun y hy=>zaq hy.length_eq (hK _ hy))
  have hsl:=hs.length_eq
  refine ze9 (fun s=>s.Perm l) (fun K hK=>?_) (fun t ht=>?_)
  · refine zcx (fun h=>?_) (fun h=>hK _ hs)
    simp only [Bool.and_eq_true,decide_eq_true_eq] at h
    exact wp_bind (zfC hf n (by omega) (H.perm hs) (by omega) (by omega) (by omega) (by omega) (by omega)) (fun y hy=>zaq hy.length_eq (hK _ (hy.trans hs)))
  have htl:=ht.length_eq
  refine zcx (fun h=>?_) (fun h=>zat ht)
  simp only [Bool.and_eq_true,decide_eq_true_eq] at h
  exact wp_bind (zfC hf n (by omega) (H.perm ht) (by omega) (by omega) (by omega) (by omega) (by omega)) (fun y hy=>zat (hy.trans ht))
theorem zkH {fuel:Nat} (hf:1000≤fuel) {l:List Int} (hl:l.length≤100) {c:Int→Int→Option Int} (H:Cmp l c):Wp (zaG fuel l c) (fun r=>r.Perm l):=by
 unfold zaG
 refine wp_bind (Q:=fun r=>r.Perm l) ?_ (fun y hy=>zat hy)
 unfold zbv
 refine wp_loop (fun s=>0≤s.1∧s.1+20=s.2.1∧s.1≤(l.length:Int)∧s.2.2.Perm l) (fun s=>(200 - s.1).toNat) (by simp only;omega) ⟨by simp [-List.getD_eq_getElem?_getD],by simp [-List.getD_eq_getElem?_getD],by simp only;omega,.refl _⟩ (fun s K hI hK=>?_)
 obtain ⟨i,j,s⟩:=s
 obtain ⟨h1,h2,h3,h4⟩:=hI
 simp only at h1 h2 h3 h4 hK ⊢
 have hlen:=h4.length_eq
 refine zbI (fun hlt=>?_) (fun hge=>?_)
 · exact wp_bind (ziO hf (by omega) (H.perm h4) (by omega) (by omega)) (fun y hy=>zaq hy.length_eq (zai (by omega) (hK _ ⟨by simp only;omega,by simp only,by simp only;omega,hy.trans h4⟩ (by simp only;omega))))
 refine wp_bind (ziO hf (by omega) (H.perm h4) (by omega) (by omega)) (fun y hy=>zaq hy.length_eq ?_)
 have hy':=hy.trans h4
 refine wp_loop (fun s=>20≤s.1∧s.1≤200∧s.2.Perm l) (fun s=>(200 - s.1).toNat) (by simp only;omega) ⟨by simp [-List.getD_eq_getElem?_getD],by simp [-List.getD_eq_getElem?_getD],hy'⟩ (fun t K2 hI2 hK2=>?_)
 obtain ⟨bs,t⟩:=t
 obtain ⟨g1,g2,g3⟩:=hI2
 simp only at g1 g2 g3 hK2 ⊢
 refine zbI (fun hbs=>?_) (fun _=>zat g3)
 refine zai (by omega) ?_
 refine wp_loop (fun s=>0≤s.1∧s.1+2 * bs=s.2.1∧s.1≤(l.length:Int)∧s.2.2.Perm l) (fun s=>(1000 - s.1).toNat - 100) (by simp only;omega) ⟨by simp [-List.getD_eq_getElem?_getD],by simp [-List.getD_eq_getElem?_getD],by simp only;omega,g3⟩ (fun u K3 hI3 hK3=>?_)
 obtain ⟨x,z,u⟩:=u
 obtain ⟨u1,u2,u3,u4⟩:=hI3
 simp only at u1 u2 u3 u4 hK3 ⊢
 have hul:=u4.length_eq
 refine zbI (fun hz=>?_) (fun hz=>?_)
 · exact zai (by omega) (wp_bind (zfC hf fuel (by omega) (H.perm u4) (by omega) (by omega) (by omega) (by omega) (by omega)) (fun y hy=>zaq hy.length_eq (zai (by omega) (zai (by omega) (hK3 _ ⟨by simp only;omega,by simp only,by simp only;omega,hy.trans u4⟩ (by simp only;omega))))))
 refine zai (by omega) ?_
 refine ze9 (fun s=>s.Perm l) (fun K4 hK4=>?_) (fun v hv=>zai (by omega) (hK2 _ ⟨by simp only;omega,by simp only;omega,hv⟩ (by simp only;omega)))
 refine zbI (fun hx=>?_) (fun hx=>hK4 _ u4)
 exact wp_bind (zfC hf fuel (by omega) (H.perm u4) (by omega) (by omega) (by omega) (by omega) (by omega)) (fun y hy=>zaq hy.length_eq (hK4 _ (hy.trans u4)))
end Go.Sp
end
/- Plain laws, mantle: which mantle a lamp has, by both; which burns tell; ages as sums. No program in sight. -/
section
set_option linter.all false
namespace Go.Sp
open Go.Av
set_option maxRecDepth 100000
def mt (w:Wear) (i:Nat):Mantle:=w.Mantles.getD i default
def bn (w:Wear) (i:Nat):Burn:=w.Burns.getD i default
def Cand (w:Wear) (lamp night known:Int) (j:Nat):Prop:=(mt w j).Lamp=lamp∧(mt w j).Night≤night∧zas (mt w j).Known (mt w j).Until known=true
instance (w:Wear) (lamp night known:Int) (j:Nat):Decidable (Cand w lamp night known j):=inferInstanceAs (Decidable (_∧_∧_))
def fitN (w:Wear) (lamp night known:Int):Nat→Int
 | 0=>-1
 | n+1=>if Cand w lamp night known n∧(fitN w lamp night known n<0∨(mt w (fitN w lamp night known n).toNat).Night≤(mt w n).Night) then (n:Int) else fitN w lamp night known n
def fit (w:Wear) (lamp night known:Int):Int:=fitN w lamp night known w.Mantles.length
structure FitIs (w:Wear) (lamp night known:Int) (n:Nat) (i:Nat):Prop where
 lt:i<n
 cand:Cand w lamp night known i
 top:∀ j,j<n→Cand w lamp night known j→(mt w j).Night≤(mt w i).Night∧(i<j→(mt w j).Night<(mt w i).Night)
theorem zjF (w:Wear) (lamp night known:Int):∀ n,(fitN w lamp night known n = -1∧∀ j,j<n→¬ Cand w lamp night known j)∨∃ i:Nat,fitN w lamp night known n=(i:Int)∧FitIs w lamp night known n i
 | 0=>.inl ⟨rfl,fun j hj=>absurd hj (Nat.not_lt_zero _)⟩
 | n+1=>by
  unfold fitN
  rcases zjF w lamp night known n with ⟨e,h⟩|⟨i,e,h⟩
  · rw [e]
    by_cases hc:Cand w lamp night known n
    · rw [if_pos ⟨hc,.inl (by omega)⟩]
      refine .inr ⟨n,rfl,by omega,hc,fun j hj hcj=>?_⟩
      by_cases e:j=n
      · subst e;exact ⟨Int.le_refl _,fun h=>absurd h (Nat.lt_irrefl _)⟩
      · exact absurd hcj (h j (by omega))
    · rw [if_neg (fun h=>hc h.1)]
      refine .inl ⟨rfl,fun j hj=>?_⟩
      by_cases e:j=n
      · rw [e];exact hc
      · exact h j (by omega)
  · rw [e,Int.toNat_natCast]
    by_cases hc:Cand w lamp night known n∧((i:Int)<0∨(mt w i).Night≤(mt w n).Night)
    · rw [if_pos hc]
      have h2:(mt w i).Night≤(mt w n).Night:=hc.2.resolve_left (by omega)
      refine .inr ⟨n,rfl,by omega,hc.1,fun j hj hcj=>?_⟩
      by_cases e:j=n
      · subst e;exact ⟨Int.le_refl _,fun h=>absurd h (Nat.lt_irrefl _)⟩
      · have:=(h.top j (by omega) hcj).1
        exact ⟨by omega,fun h=>by omega⟩
    · rw [if_neg hc]
      refine .inr ⟨i,rfl,by have:=h.lt;omega,h.cand,fun j hj hcj=>?_⟩
      by_cases e:j=n
      · subst e
        have:¬ (mt w i).Night≤(mt w j).Night:=fun h=>hc ⟨hcj,.inr h⟩
        exact ⟨by omega,fun _=>by omega⟩
      · exact h.top j (by omega) hcj
theorem zk1 (w:Wear) (lamp night known:Int):(fit w lamp night known = -1∧∀ j,j<w.Mantles.length→¬ Cand w lamp night known j)∨∃ i:Nat,fit w lamp night known=(i:Int)∧FitIs w lamp night known w.Mantles.length i:=zjF w lamp night known _
theorem FitIs.eq {w:Wear} {lamp night known:Int} {i j:Nat} (h1:FitIs w lamp night known w.Mantles.length i) (h2:FitIs w lamp night known w.Mantles.length j):i=j:=by
 have a:=h1.top j h2.lt h2.cand
 have b:=h2.top i h1.lt h1.cand
 rcases Nat.lt_trichotomy i j with h|h|h
 · have:=a.2 h;omega
 · exact h
 · have:=b.2 h;omega
theorem FitIs.fit {w:Wear} {lamp night known:Int} {i:Nat} (h:FitIs w lamp night known w.Mantles.length i):fit w lamp night known=(i:Int):=by
 rcases zk1 w lamp night known with ⟨e,h2⟩|⟨j,e,h2⟩
 · exact absurd h.cand (h2 i h.lt)
 · rw [e,h2.eq h]
theorem zqA {w:Wear} {lamp night known:Int} {i:Nat} (h:Go.Sp.fit w lamp night known=(i:Int)):FitIs w lamp night known w.Mantles.length i:=by
 rcases zk1 w lamp night known with ⟨e,h2⟩|⟨j,e,h2⟩
 · omega
 · have:i=j:=by omega
   subst this;exact h2
theorem zjE (w:Wear) (lamp night known:Int) : -1≤fit w lamp night known∧fit w lamp night known<(w.Mantles.length:Int):=by
 rcases zk1 w lamp night known with ⟨e,_⟩|⟨j,e,h⟩
 · omega
 · have:=h.lt;omega
theorem FitIs.earlier {w:Wear} {lamp night known night':Int} {i:Nat} (h:FitIs w lamp night known w.Mantles.length i) (h1:(mt w i).Night≤night') (h2:night'≤night):FitIs w lamp night' known w.Mantles.length i:=
 ⟨h.lt,⟨h.cand.1,h1,h.cand.2.2⟩,fun j hj hc=>h.top j hj ⟨hc.1,by have:=hc.2.1;omega,hc.2.2⟩⟩
theorem zhN (w:Wear) (lamp night known:Int):zbZ w lamp night known=some (fit w lamp night known):=by
 unfold zbZ
 refine Wp.eq (zco (fun i s=>s=fitN w lamp night known i) rfl (fun i s K hi hI hK=>?_) (fun s hs=>zat hs))
 have hs:=zjF w lamp night known i
 rw [← hI] at hs
 refine zaq (fun h=>?_) ?_
 · simp only [Bool.and_eq_true,Bool.not_eq_true',decide_eq_false_iff_not] at h
   rcases hs with ⟨e,_⟩|⟨j,e,hj⟩
   · omega
   · have:=hj.lt;omega
 have e:((((decide ((w.Mantles.getD i default).Lamp=lamp)) && (decide ((w.Mantles.getD i default).Night≤night))) && (zas ((w.Mantles.getD i default).Known) ((w.Mantles.getD i default).Until) known)) && ((decide (s<0)) || (decide ((w.Mantles.getD (s).toNat default).Night≤(w.Mantles.getD i default).Night))))=decide (Cand w lamp night known i∧(s<0∨(mt w s.toNat).Night≤(mt w i).Night)):=by
  rw [Bool.eq_iff_iff]
  simp only [Bool.and_eq_true,Bool.or_eq_true,decide_eq_true_eq,Cand,mt,and_assoc]
 rw [e]
 refine zbI (fun h=>hK _ ?_) (fun h=>hK _ ?_)
 · subst hI;unfold fitN;rw [if_pos h]
 · subst hI;conv=>rhs;unfold fitN
   rw [if_neg h]
def zpk:Mantle:=⟨0,0,0,0,0,0⟩
def atR (w:Wear) (lamp night known:Int):Mantle×Bool:=if fit w lamp night known<0 then (zpk,false) else (mt w (fit w lamp night known).toNat,true)
theorem rcounts (a b c:Int):zaI a b c=zas a b c:=rfl
theorem at_eq {w:Wear} {fuel:Nat} (hf:w.Mantles.length<fuel) (hn:w.Mantles.length≤60) (lamp night known:Int):zbT fuel w lamp night known=some (atR w lamp night known):=by
 unfold zbT
 refine Wp.eq ?_
 refine wp_loop (fun s=>∃ i:Nat,s.2.1=(i:Int)∧i≤w.Mantles.length∧s.1 = !decide (fitN w lamp night known i<0)∧s.2.2=if fitN w lamp night known i<0 then zpk else mt w (fitN w lamp night known i).toNat) (fun s=>w.Mantles.length - s.2.1.toNat) (by simp [-List.getD_eq_getElem?_getD];omega) ⟨0,rfl,Nat.zero_le _,rfl,rfl⟩ (fun s K hI hK=>?_)
 obtain ⟨b,x,m⟩:=s
 obtain ⟨i,h1,h2,h3,h4⟩:=hI
 simp only at h1 h2 h3 h4 hK ⊢
 subst h1
 by_cases hin:i<w.Mantles.length
 · refine zcs (by simp [-List.getD_eq_getElem?_getD];omega) (zaq (by omega) ?_)
   simp only [Int.toNat_natCast] at hK ⊢
   have e:((((decide ((w.Mantles.getD i default).Lamp=lamp)) && (decide ((w.Mantles.getD i default).Night≤night))) && (zaI ((w.Mantles.getD i default).Known) ((w.Mantles.getD i default).Until) known)) && ((!b) || (decide (m.Night≤(w.Mantles.getD i default).Night))))=decide (Cand w lamp night known i∧(fitN w lamp night known i<0∨(mt w (fitN w lamp night known i).toNat).Night≤(mt w i).Night)):=by
    rw [Bool.eq_iff_iff,h3,h4]
    by_cases hc:fitN w lamp night known i<0
    · simp only [hc,Bool.and_eq_true,Bool.or_eq_true,decide_eq_true_eq,Cand,mt,and_assoc,rcounts];simp [-List.getD_eq_getElem?_getD]
    · simp only [hc,Bool.and_eq_true,Bool.or_eq_true,decide_eq_true_eq,Cand,mt,and_assoc,rcounts];simp [-List.getD_eq_getElem?_getD]
   rw [e]
   refine zbI (fun h=>zai (by omega) (hK _ ⟨i+1,by simp [-List.getD_eq_getElem?_getD],by omega,?_,?_⟩ (by simp only;omega))) (fun h=>zai (by omega) (hK _ ⟨i+1,by simp [-List.getD_eq_getElem?_getD],by omega,?_,?_⟩ (by simp only;omega)))
   · simp only;unfold fitN;rw [if_pos h];simp [-List.getD_eq_getElem?_getD]
   · simp only;unfold fitN;rw [if_pos h,if_neg (by omega)];simp [-List.getD_eq_getElem?_getD,mt]
   · simp only;unfold fitN;rw [if_neg h];exact h3
   · simp only;unfold fitN;rw [if_neg h];exact h4
 · have:i=w.Mantles.length:=by omega
   subst this
   refine zaL (by simp [-List.getD_eq_getElem?_getD]) (zat ?_)
   unfold atR fit
   rw [h3,h4]
   by_cases hc:fitN w lamp night known w.Mantles.length<0
   · simp [-List.getD_eq_getElem?_getD,hc]
   · simp [-List.getD_eq_getElem?_getD,hc]
def tell (w:Wear) (known:Int) (i:Nat):Bool:=decide (0≤fit w (bn w i).Lamp (bn w i).Night known) && zas (bn w i).Known (bn w i).Until known &&
 decide (∀ k,k<w.Burns.length→i<k→¬ ((bn w k).Lamp=(bn w i).Lamp∧(bn w k).Night=(bn w i).Night∧zas (bn w k).Known (bn w k).Until known=true))
def zaR (P:Nat→Bool) (f:Nat→Int):Nat→Int
 | 0=>0
 | n+1=>zaR P f n+(if P n=true then f n else 0)
theorem zeg {P Q:Nat→Bool} {f:Nat→Int}:∀ {n:Nat},(∀ i,i<n→P i=Q i)→zaR P f n=zaR Q f n
 | 0,_=>rfl
 | n+1,h=>by unfold zaR;rw [zeg (fun i hi=>h i (by omega)),h n (by omega)]
theorem zf9 {P Q:Nat→Bool} {f:Nat→Int}:∀ {n:Nat},(∀ i,i<n→0≤f i)→(∀ i,i<n→P i=true→Q i=true)→zaR P f n≤zaR Q f n
 | 0,_,_=>Int.le_refl _
 | n+1,h0,h=>by
  unfold zaR
  have h1:=zf9 (fun i hi=>h0 i (by omega)) (fun i hi=>h i (by omega)) (P:=P) (Q:=Q) (f:=f) (n:=n)
  have h2:=h0 n (by omega)
  by_cases hp:P n=true
  · rw [if_pos hp,if_pos (h n (by omega) hp)];omega
  · rw [if_neg hp];split <;> omega
theorem zeh {P:Nat→Bool} {f:Nat→Int} {c:Int} (hc:0≤c):∀ {n:Nat},(∀ i,i<n→0≤f i∧f i≤c)→0≤zaR P f n∧zaR P f n≤(n:Int) * c
 | 0,_=>by simp [-List.getD_eq_getElem?_getD,zaR]
 | n+1,h=>by
  unfold zaR
  have h1:=zeh hc (fun i hi=>h i (by omega)) (P:=P) (f:=f) (n:=n)
  have h2:=h n (by omega)
  have:((n+1:Nat):Int) * c=(n:Int) * c+c:=by rw [Int.natCast_add,Int.add_mul];simp [-List.getD_eq_getElem?_getD]
  rw [this]
  split <;> omega
theorem zcU {P:Nat→Bool} {f g:Nat→Int}:∀ {n:Nat},(∀ i,i<n→P i=true→f i≤g i)→zaR P f n≤zaR P g n
 | 0,_=>Int.le_refl _
 | n+1,h=>by
  unfold zaR
  have h1:=zcU (fun i hi=>h i (by omega)) (P:=P) (f:=f) (g:=g) (n:=n)
  by_cases hp:P n=true
  · rw [if_pos hp,if_pos hp];have:=h n (by omega) hp;omega
  · rw [if_neg hp,if_neg hp];omega
theorem zkb {P Q R:Nat→Bool} {f:Nat→Int}:∀ {n:Nat},(∀ i,i<n→R i=(P i || Q i))→(∀ i,i<n→¬ (P i=true∧Q i=true))→zaR R f n=zaR P f n+zaR Q f n
 | 0,_,_=>rfl
 | n+1,h1,h2=>by
  unfold zaR
  rw [zkb (fun i hi=>h1 i (by omega)) (fun i hi=>h2 i (by omega)),h1 n (by omega)]
  have:=h2 n (by omega)
  cases hp:P n <;> cases hq:Q n <;> simp_all [-List.getD_eq_getElem?_getD] <;> omega
def zeW (w:Wear) (known m from_ to:Int) (i:Nat):Bool:=tell w known i && decide (fit w (bn w i).Lamp (bn w i).Night known=m) && (decide (from_<(bn w i).Night) && decide ((bn w i).Night≤to))
def zgG (w:Wear) (known m from_ to:Int):Int:=zaR (zeW w known m from_ to) (fun i=>(bn w i).Minutes.Lo) w.Burns.length
def zeV (w:Wear) (known m from_ to:Int):Int:=zaR (zeW w known m from_ to) (fun i=>(bn w i).Minutes.Hi) w.Burns.length
end Go.Sp
end
/- Plain laws, mantle: which burns tell, ages, by both; the burns of each mantle. No program in sight. -/
section
set_option linter.all false
namespace Go.Sp
open Go.Av
set_option maxRecDepth 100000
theorem ze2 {T:Type} [Inhabited T] {p:T→Option Bool} {q:T→Bool} (hp:∀ x,p x=some (q x)) (l:List T) :
 (zal (zao (fun i1 (s1:Unit) k1=>zal (p (l.getD i1 default)) fun y3=>(bif y3 then some (i1:Int) else k1 ())) (fun (s1:Unit)=>some (-1)) l.length 0 ():Option Int) fun y1=>some (decide (0≤y1)))=some (l.any q):=by
 rw [zgj hp l]
 show some _=some _
 congr 1
 cases h:l.findIdx? q with
 | none=>
  rw [List.findIdx?_eq_none_iff] at h
  have:l.any q=false:=by rw [List.any_eq_false];intro x hx;simp [-List.getD_eq_getElem?_getD,h x hx]
  rw [this];rfl
 | some i=>
  rw [List.findIdx?_eq_some_iff_getElem] at h
  obtain ⟨h1,h2,_⟩:=h
  have:l.any q=true:=List.any_eq_true.2 ⟨_,List.getElem_mem h1,h2⟩
  rw [this];simp [-List.getD_eq_getElem?_getD]
def zkk (w:Wear) (known:Int) (i k:Nat):Prop:=(bn w k).Lamp=(bn w i).Lamp∧(bn w k).Night=(bn w i).Night∧zas (bn w k).Known (bn w k).Until known=true
theorem zm4 {w:Wear} {known:Int} {i:Nat}:tell w known i=true↔0≤fit w (bn w i).Lamp (bn w i).Night known∧zas (bn w i).Known (bn w i).Until known=true∧∀ k,k<w.Burns.length→i<k→¬ zkk w known i k:=by
 simp only [tell,Bool.and_eq_true,decide_eq_true_eq,and_assoc,zkk]
theorem zql {w:Wear} {known:Int} {i:Nat}:(w.Burns.drop (i+1)).any (fun x0=>zbk x0 (bn w i) known)=true↔∃ k,k<w.Burns.length∧i<k∧zkk w known i k:=by
 rw [List.any_eq_true]
 constructor
 · rintro ⟨x,hx,h⟩
   obtain ⟨j,hj,rfl⟩:=zdv hx
   rw [List.length_drop] at hj
   rw [getD_drop] at h
   refine ⟨i+1+j,by omega,by omega,?_⟩
   simp only [zbk,Bool.and_eq_true,decide_eq_true_eq,and_assoc] at h
   exact h
 · rintro ⟨k,hk,hik,h⟩
   refine ⟨bn w k,?_,by simp only [zbk,Bool.and_eq_true,decide_eq_true_eq,and_assoc];exact h⟩
   have:(w.Burns.drop (i+1)).getD (k - (i+1)) default=bn w k:=by rw [getD_drop];unfold bn;congr 1;omega
   rw [← this]
   exact zbq (by rw [List.length_drop];omega)
theorem znL {w:Wear} (V:WearOk w) {fuel:Nat} (hf:100<fuel) (known:Int):zbM fuel w known=some ((List.range w.Burns.length).map (tell w known)):=by
 have nu:=V.nu;have nm:=V.nm
 unfold zbM
 refine Wp.eq ?_
 refine zj6 w.Burns.length (by omega) (fun i (s:List Bool)=>s=(List.range i).map (tell w known)) rfl (fun i s K hi hI hK=>?_)
 subst hI
 by_cases hin:i<w.Burns.length
 · refine zcs (by simp [-List.getD_eq_getElem?_getD];omega) (zaq (by simp only;omega) ?_)
   simp only [Int.toNat_natCast]
   refine zau (at_eq (by omega) nm _ _ known) (zai (by omega) ?_)
   refine wp_loop (fun s=>∃ k:Nat,s.1=(k:Int)∧i+1≤k∧k≤w.Burns.length∧(s.2=true↔0≤fit w (bn w i).Lamp (bn w i).Night known∧zas (bn w i).Known (bn w i).Until known=true∧∀ j,j<k→i<j→¬ zkk w known i j)) (fun s=>w.Burns.length - s.1.toNat) (by simp only;omega)
    ⟨i+1,by simp [-List.getD_eq_getElem?_getD],Nat.le_refl _,hin,?_⟩ (fun s K2 hI2 hK2=>?_)
   · show (_ && _)=true↔_
     have e:(atR w (w.Burns.getD i default).Lamp (w.Burns.getD i default).Night known).2=decide (0≤fit w (bn w i).Lamp (bn w i).Night known):=by
      unfold atR bn
      by_cases h:fit w (w.Burns.getD i default).Lamp (w.Burns.getD i default).Night known<0
      · rw [if_pos h];simp [-List.getD_eq_getElem?_getD];omega
      · rw [if_neg h];simp [-List.getD_eq_getElem?_getD];omega
     rw [e,Bool.and_eq_true,decide_eq_true_eq]
     exact ⟨fun h=>⟨h.1,h.2,fun j hj hij=>by omega⟩,fun h=>⟨h.1,h.2.1⟩⟩
   obtain ⟨x,b⟩:=s
   obtain ⟨k,h1,h2,h3,h4⟩:=hI2
   simp only at h1 h4 hK2 ⊢
   subst h1
   by_cases hk:k<w.Burns.length
   · refine zcs (by simp [-List.getD_eq_getElem?_getD];omega) (zaq (by omega) (zai (by omega) (hK2 _ ⟨k+1,by simp [-List.getD_eq_getElem?_getD],by omega,by omega,?_⟩ (by simp only;omega))))
     simp only [Int.toNat_natCast,Bool.and_eq_true,h4]
     have e:(((!decide ((w.Burns.getD k default).Lamp=(w.Burns.getD i default).Lamp)) || (!decide ((w.Burns.getD k default).Night=(w.Burns.getD i default).Night))) || (!(zaI ((w.Burns.getD k default).Known) ((w.Burns.getD k default).Until) known)))=true↔¬ zkk w known i k:=by
      simp only [Bool.or_eq_true,Bool.not_eq_true',decide_eq_false_iff_not,zkk,bn,rcounts]
      constructor
      · rintro ((h|h)|h) ⟨h1,h2,h3⟩
        · exact h h1
        · exact h h2
        · rw [h] at h3;cases h3
      · intro h
        by_cases h1:(w.Burns.getD k default).Lamp=(w.Burns.getD i default).Lamp
        · by_cases h2:(w.Burns.getD k default).Night=(w.Burns.getD i default).Night
          · refine .inr ?_
            cases h3:zas (w.Burns.getD k default).Known (w.Burns.getD k default).Until known with
            | false=>rfl
            | true=>exact absurd ⟨h1,h2,h3⟩ h
          · exact .inl (.inr h2)
        · exact .inl (.inl h1)
     rw [e]
     constructor
     · rintro ⟨⟨a1,a2,a3⟩,a4⟩
       refine ⟨a1,a2,fun j hj hij=>?_⟩
       by_cases e:j=k
       · rw [e];exact a4
       · exact a3 j (by omega) hij
     · rintro ⟨a1,a2,a3⟩
       exact ⟨⟨a1,a2,fun j hj hij=>a3 j (by omega) hij⟩,a3 k (by omega) (by omega)⟩
   · have:k=w.Burns.length:=by omega
     subst this
     refine zaL (by simp [-List.getD_eq_getElem?_getD]) (zbO (by simp [-List.getD_eq_getElem?_getD];omega) (zai (by omega) (hK _ hin ?_)))
     rw [List.range_succ,List.map_append]
     congr 1
     simp only [List.map_cons,List.map_nil]
     congr 1
     rw [Bool.eq_iff_iff,h4,zm4]
 · have:i=w.Burns.length:=by omega
   subst this
   exact zaL (by simp [-List.getD_eq_getElem?_getD]) (zat rfl)
theorem zjT {w:Wear} (V:WearOk w) {i:Nat} (hi:i<w.Burns.length):BurnOk (bn w i):=(V.bu i hi).1
theorem sum60 {w:Wear} (V:WearOk w) (P:Nat→Bool) {n:Nat} (hn:n≤w.Burns.length):(0≤zaR P (fun i=>(bn w i).Minutes.Lo) n∧zaR P (fun i=>(bn w i).Minutes.Lo) n≤86400)∧(0≤zaR P (fun i=>(bn w i).Minutes.Hi) n∧zaR P (fun i=>(bn w i).Minutes.Hi) n≤86400):=by
 have nu:=V.nu
 have h1:=zeh (P:=P) (f:=fun i=>(bn w i).Minutes.Lo) (c:=1440) (by decide) (n:=n) (fun i hi=>by have:=(zjT V (i:=i) (by omega)).min;omega)
 have h2:=zeh (P:=P) (f:=fun i=>(bn w i).Minutes.Hi) (c:=1440) (by decide) (n:=n) (fun i hi=>by have:=(zjT V (i:=i) (by omega)).min;omega)
 have:(n:Int) * 1440≤86400:=by omega
 omega
def zo0 (w:Wear) (known:Int) (m:Mantle) (night:Int) (i:Nat):Bool:=tell w known i && decide ((bn w i).Lamp=m.Lamp) && zaF (bn w i).Night m.Night night
theorem zp6 {w:Wear} (V:WearOk w) {known lamp night:Int} {m:Nat} (h:FitIs w lamp night known w.Mantles.length m) {i:Nat} (hi:i<w.Burns.length):zo0 w known (mt w m) night i=zeW w known (m:Int) (-1) night i:=by
 rw [Bool.eq_iff_iff]
 unfold zo0 zeW zaF
 simp only [Bool.and_eq_true,decide_eq_true_eq]
 have hb:=(zjT V hi).told.night
 constructor
 · rintro ⟨⟨h1,h2⟩,h3,h4⟩
   refine ⟨⟨h1,?_⟩,by omega,h4⟩
   rw [h2,h.cand.1]
   exact (h.earlier h3 h4).fit
 · rintro ⟨⟨h1,h2⟩,h3,h4⟩
   have h5:=zqA h2
   exact ⟨⟨h1,h5.cand.1.symm⟩,h5.cand.2.1,h4⟩
def zfX (w:Wear) (known m:Int) (n:Nat):List Int:=((List.range n).filter (fun i=>tell w known i && decide (fit w (bn w i).Lamp (bn w i).Night known=m))).map (fun i:Nat=>(i:Int))
theorem zkq {w:Wear} {known m:Int} {n:Nat}:zfX w known m (n+1)=if tell w known n=true∧fit w (bn w n).Lamp (bn w n).Night known=m then zfX w known m n++[(n:Int)] else zfX w known m n:=by
 unfold zfX
 rw [List.range_succ,List.filter_append,List.map_append]
 by_cases h:tell w known n=true∧fit w (bn w n).Lamp (bn w n).Night known=m
 · rw [if_pos h]
   simp [-List.getD_eq_getElem?_getD,h]
 · rw [if_neg h]
   have:(tell w known n && decide (fit w (bn w n).Lamp (bn w n).Night known=m))=false:=by
    rw [Bool.and_eq_false_iff,decide_eq_false_iff_not]
    by_cases h1:tell w known n=true
    · exact .inr (fun h2=>h ⟨h1,h2⟩)
    · exact .inl (by simpa [-List.getD_eq_getElem?_getD] using h1)
   simp [-List.getD_eq_getElem?_getD,this]
theorem zfy {w:Wear} {known m:Int} {n:Nat} {x:Int} (h:x∈zfX w known m n):0≤x∧x<(n:Int):=by
 unfold zfX at h
 rw [List.mem_map] at h
 obtain ⟨i,hi,rfl⟩:=h
 have:=List.mem_range.1 (List.mem_filter.1 hi).1
 omega
theorem zh1 (w:Wear) (known m:Int) (n:Nat):(zfX w known m n).length≤n:=by
 unfold zfX
 rw [List.length_map]
 exact Nat.le_trans (List.length_filter_le _ _) (by simp [-List.getD_eq_getElem?_getD])
theorem Mp.zpV {T:Type}:(Mp.empty:Mp T).ok:=⟨List.nodup_nil,rfl,fun k hk=>by cases hk⟩
theorem Mp.ok_set {T:Type} {m:Mp T} (h:m.ok) (hd:∀ k,(m.get k).isSome=true→k∈m.keys) (q:Int) (x:T):(m.set q x).ok∧∀ k,((m.set q x).get k).isSome=true→k∈(m.set q x).keys:=by
 obtain ⟨h1,h2,h3⟩:=h
 unfold Mp.set Mp.ok
 by_cases hq:(m.get q).isSome=true
 · simp only [hq,if_true]
   refine ⟨⟨h1,h2,fun k hk=>?_⟩,fun k hk=>?_⟩
   · by_cases e:k=q
     · rw [if_pos e];rfl
     · rw [if_neg e];exact h3 k hk
   · by_cases e:k=q
     · rw [e];exact hd q hq
     · rw [if_neg e] at hk;exact hd k hk
 · simp only [hq]
   have hnq:q ∉ m.keys:=fun h=>hq (h3 q h)
   refine ⟨⟨?_,by simp [-List.getD_eq_getElem?_getD,h2],fun k hk=>?_⟩,fun k hk=>?_⟩
   · show (m.keys++[q]).Nodup
     rw [List.nodup_append]
     exact ⟨h1,by simp [-List.getD_eq_getElem?_getD],fun a ha b hb=>by
      rw [List.mem_singleton] at hb
      subst hb
      exact fun e=>hnq (e▸ha)⟩
   · by_cases e:k=q
     · rw [if_pos e];rfl
     · rw [if_neg e]
       have:k∈m.keys++[q]:=hk
       rw [List.mem_append,List.mem_singleton] at this
       exact h3 k (this.resolve_right e)
   · show k∈m.keys++[q]
     rw [List.mem_append,List.mem_singleton]
     by_cases e:k=q
     · exact .inr e
     · rw [if_neg e] at hk;exact .inl (hd k hk)
theorem zqn {w:Wear} (V:WearOk w) {fuel:Nat} (hf:1000≤fuel) (known:Int):Wp (zen fuel w known) (fun mp=>∀ m,((mp.get m).getD default).Perm (zfX w known m w.Burns.length)):=by
 have nu:=V.nu
 unfold zen
 refine zco (fun i s=>(s.ok∧∀ k,(s.get k).isSome=true→k∈s.keys)∧∀ m,(s.get m).getD []=zfX w known m i) ⟨⟨Mp.zpV,fun k hk=>by cases hk⟩,fun m=>rfl⟩ (fun i s K hi hI hK=>?_) (fun s hs=>?_)
 · obtain ⟨⟨h1,h2⟩,h3⟩:=hI
   refine zau (zhN w _ _ known) (zaq (fun _=>by omega) ?_)
   refine zkC (Q:=fun y=>y=(w.Burns.drop (i+1)).any (fun x0=>zbk x0 (bn w i) known)) (fun _=>?_) (fun y6 h6=>?_)
   · have e:(((i:Int)+1)).toNat=i+1:=by omega
     rw [e]
     exact ⟨_,ze2 (q:=fun x0=>zbk x0 (bn w i) known) (fun x=>rfl) _,rfl⟩
   have e:(((decide (0≤fit w (w.Burns.getD i default).Lamp (w.Burns.getD i default).Night known)) && (zas ((w.Burns.getD i default).Known) ((w.Burns.getD i default).Until) known)) && (!y6))=tell w known i:=by
    rw [Bool.eq_iff_iff,zm4]
    simp only [Bool.and_eq_true,Bool.not_eq_true',decide_eq_true_eq,and_assoc,bn]
    refine and_congr_right (fun a1=>and_congr_right (fun a2=>?_))
    have h7:=h6 (by simp only [Bool.and_eq_true,decide_eq_true_eq];exact ⟨a1,a2⟩)
    rw [h7,← Bool.not_eq_true,zql]
    exact ⟨fun h k hk hik hl=>h ⟨k,hk,hik,hl⟩,fun h ⟨k,hk,hik,hl⟩=>h k hk hik hl⟩
   rw [e]
   have hlen:=zh1 w known (fit w (w.Burns.getD i default).Lamp (w.Burns.getD i default).Night known) i
   refine zcx (fun ht=>zbO (by rw [h3];simp [-List.getD_eq_getElem?_getD];omega) (hK _ ⟨Mp.ok_set h1 h2 _ _,fun m=>?_⟩)) (fun ht=>hK _ ⟨⟨h1,h2⟩,fun m=>?_⟩)
   · rw [h3]
     show (if m=_ then some _ else s.get m).getD []=_
     rw [zkq]
     by_cases e1:m=fit w (bn w i).Lamp (bn w i).Night known
     · have e2:tell w known i=true∧fit w (bn w i).Lamp (bn w i).Night known=m:=⟨ht,e1.symm⟩
       rw [if_pos e2,e1]
       exact congrArg (fun z=>Option.getD z []) (if_pos rfl)
     · have e2:¬ (tell w known i=true∧fit w (bn w i).Lamp (bn w i).Night known=m):=fun h=>e1 h.2.symm
       rw [if_neg e2,← h3 m]
       exact congrArg (fun z=>Option.getD z []) (if_neg e1)
   · rw [zkq,if_neg (fun h=>by rw [ht] at h;cases h.1),h3]
 · obtain ⟨⟨h1,h2⟩,h3⟩:=hs
   refine zaq h1 ?_
   have hsort:∀ m,Wp (zaG fuel ((s.get m).getD []) (fun x0 x1=>zbL x0 x1 w)) (fun r=>r.Perm ((s.get m).getD [])):=fun m=>by
    have hl:=zh1 w known m w.Burns.length
    refine zkH hf (by rw [h3];omega) (fun a ha b hb=>?_)
    rw [h3] at ha hb
    have a1:=zfy ha
    have b1:=zfy hb
    unfold zbL
    rw [zgN a1,zgN b1]
    exact ⟨_,rfl⟩
   have hrow:∀ m,Wp (zal (zaG fuel ((s.get m).getD []) (fun x0 x1=>zbL x0 x1 w)) fun y13=>must (y13.length=((s.get m).getD []).length) (some y13)) (fun r=>r.Perm ((s.get m).getD [])):=fun m=>wp_bind (hsort m) (fun y hy=>zaq hy.length_eq (zat hy))
   refine wp_bind (Q:=fun y=>∀ m,((y.get m).getD default).Perm (zfX w known m w.Burns.length)) ?_ (fun y hy=>zat hy)
   unfold Mp.znl
   have hall:s.keys.all (fun k=>((fun (l11:List Int)=>zal (zaG fuel l11 (fun x0 x1=>zbL x0 x1 w)) fun y13=>must (y13.length=l11.length) (some y13)) ((s.get k).getD default)).isSome)=true:=by
    rw [List.all_eq_true]
    intro k _
    obtain ⟨r,e,_⟩:=hrow k
    show (zal (zaG fuel ((s.get k).getD []) (fun x0 x1=>zbL x0 x1 w)) fun y13=>must (y13.length=((s.get k).getD []).length) (some y13)).isSome=true
    rw [e];rfl
   rw [hall]
   refine zat (fun m=>?_)
   rw [← h3]
   obtain ⟨r,e,hr⟩:=hrow m
   cases hm:s.get m with
   | none=>simp only [hm];exact .refl _
   | some l=>
    rw [hm] at e hr
    simp only [Option.getD_some,hm] at e hr ⊢
    rw [e];exact hr
end Go.Sp
end
/- Plain laws, mantle: the closet: which lives each batch may have. No program in sight. -/
section
set_option linter.all false
namespace Go.Sp
open Go.Av
set_option maxRecDepth 100000
def lsum (g:Int→Int):List Int→Int
 | []=>0
 | x::l=>g x+lsum g l
theorem zlK {g:Int→Int} {l r:List Int} (h:l.Perm r):lsum g l=lsum g r:=by
 induction h with
 | nil=>rfl
 | cons x _ ih=>unfold lsum;rw [ih]
 | swap x y l=>unfold lsum;unfold lsum;omega
 | trans _ _ h1 h2=>rw [h1,h2]
theorem zep {g:Int→Int} (l:List Int) (x:Int):lsum g (l++[x])=lsum g l+g x:=by
 induction l with
 | nil=>simp [-List.getD_eq_getElem?_getD,lsum]
 | cons y l ih=>rw [List.cons_append];unfold lsum;rw [ih];omega
theorem zij {g:Int→Int} {c:Int} (hc:0≤c):∀ {l:List Int},(∀ x∈l,0≤g x∧g x≤c)→0≤lsum g l∧lsum g l≤(l.length:Int) * c
 | [],_=>by simp [-List.getD_eq_getElem?_getD,lsum]
 | x::l,h=>by
  unfold lsum
  have h1:=zij hc (fun y hy=>h y (List.mem_cons_of_mem _ hy)) (g:=g) (l:=l)
  have h2:=h x (List.mem_cons_self ..)
  have:((x::l).length:Int) * c=(l.length:Int) * c+c:=by rw [List.length_cons,Int.natCast_add,Int.add_mul];simp [-List.getD_eq_getElem?_getD]
  rw [this];omega
theorem zii {P:Nat→Bool} {g:Int→Int}:∀ {n:Nat},lsum g (((List.range n).filter P).map (fun i:Nat=>(i:Int)))=zaR P (fun i=>g i) n
 | 0=>rfl
 | n+1=>by
  rw [List.range_succ,List.filter_append,List.map_append]
  unfold zaR
  rw [← zii]
  by_cases h:P n=true
  · rw [if_pos h]
    have:(List.filter P [n]).map (fun i:Nat=>(i:Int))=[(n:Int)]:=by simp [-List.getD_eq_getElem?_getD,h]
    rw [this,zep]
  · rw [if_neg h]
    have:(List.filter P [n]).map (fun i:Nat=>(i:Int))=[]:=by simp [-List.getD_eq_getElem?_getD,h]
    rw [this,List.append_nil,Int.add_zero]
theorem zh8 {P Q:Nat→Bool} {f:Nat→Int}:∀ {n:Nat},zaR P (fun i=>if Q i=true then f i else 0) n=zaR (fun i=>P i && Q i) f n
 | 0=>rfl
 | n+1=>by
  unfold zaR
  rw [zh8]
  cases hp:P n <;> cases hq:Q n <;> simp [-List.getD_eq_getElem?_getD]
structure CoatOk (w:Wear) (known:Int) (m:Nat) (S:List mantle_sight) (c:mantle_coat):Prop where
 wear:c.w=w
 burns:c.burns.Perm (zfX w known m w.Burns.length)
 sights:c.sights=S
theorem zbU {T:Type} [Inhabited T] {l:List T} {i:Nat} (h:i<l.length):l.take (i+1)=l.take i++[l.getD i default]:=by
 rw [List.take_add_one,List.getElem?_eq_getElem h,List.getD_eq_getElem?_getD,List.getElem?_eq_getElem h];rfl
theorem zll {w:Wear} (V:WearOk w) {known:Int} {m:Nat} {S:List mantle_sight} {c:mantle_coat} (hc:CoatOk w known m S c) (f t:Int):za2 c f t=some ⟨zgG w known m f t,zeV w known m f t⟩:=by
 have nu:=V.nu
 unfold za2
 rw [hc.wear]
 have hlen:c.burns.length≤60:=by have:=hc.burns.length_eq;have:=zh1 w known m w.Burns.length;omega
 have hin:∀ i,i<c.burns.length→0≤c.burns.getD i default∧c.burns.getD i default<(w.Burns.length:Int):=fun i hi=>zfy (hc.burns.mem_iff.1 (zbq hi))
 let g:(Burn→Int)→Int→Int:=fun F x=>if f<(bn w x.toNat).Night∧(bn w x.toNat).Night≤t then F (bn w x.toNat) else 0
 have hL:∀ F,(∀ b,BurnOk b→0≤F b∧F b≤1440)→∀ i,0≤lsum (g F) (c.burns.take i)∧lsum (g F) (c.burns.take i)≤86400:=fun F hF i=>by
  have:=zij (g:=g F) (c:=1440) (by decide) (l:=c.burns.take i) (fun x hx=>by
   have hx':=zfy (hc.burns.mem_iff.1 (List.mem_of_mem_take hx))
   have:=hF _ (zjT V (i:=x.toNat) (by omega))
   simp only [g]
   split <;> omega)
  have h2:(c.burns.take i).length≤60:=by rw [List.length_take];omega
  omega
 have hlo:∀ b,BurnOk b→0≤b.Minutes.Lo∧b.Minutes.Lo≤1440:=fun b hb=>by have:=hb.min;omega
 have hhi:∀ b,BurnOk b→0≤b.Minutes.Hi∧b.Minutes.Hi≤1440:=fun b hb=>by have:=hb.min;omega
 refine Wp.eq (zco (fun i s=>s=⟨lsum (g (·.Minutes.Lo)) (c.burns.take i),lsum (g (·.Minutes.Hi)) (c.burns.take i)⟩) rfl (fun i s K hi hI hK=>?_) (fun s hs=>zat ?_))
 · subst hI
   have a:=hin i hi
   have b1:=hL _ hlo i
   have b2:=hL _ hhi i
   have hb:=(zjT V (i:=(c.burns.getD i default).toNat) (by omega)).min
   refine zaq a ?_
   have e:((decide (f<(w.Burns.getD ((c.burns.getD i default)).toNat default).Night)) && (decide ((w.Burns.getD ((c.burns.getD i default)).toNat default).Night≤t)))=decide (f<(bn w (c.burns.getD i default).toNat).Night∧(bn w (c.burns.getD i default).toNat).Night≤t):=by
    rw [Bool.decide_and];rfl
   rw [e]
   unfold bn at hb
   refine zbI (fun h=>zai (by simp only;omega) (zai (by simp only;omega) (hK _ ?_))) (fun h=>hK _ ?_)
   · rw [zbU hi,zep,zep]
     simp only [g]
     rw [if_pos h,if_pos h];rfl
   · rw [zbU hi,zep,zep]
     simp only [g]
     rw [if_neg h,if_neg h,Int.add_zero,Int.add_zero]
 · rw [hs,List.take_length]
   have key:∀ F:Burn→Int,lsum (g F) c.burns=zaR (zeW w known m f t) (fun i=>F (bn w i)) w.Burns.length:=fun F=>by
    rw [zlK hc.burns]
    unfold zfX
    rw [zii]
    have:(fun i:Nat=>g F (i:Int))=fun i:Nat=>if (decide (f<(bn w i).Night) && decide ((bn w i).Night≤t))=true then F (bn w i) else 0:=by
     funext i
     simp only [g,Int.toNat_natCast,Bool.and_eq_true,decide_eq_true_eq]
    rw [this,zh8]
    rfl
   have k1:=key (fun b=>b.Minutes.Lo)
   have k2:=key (fun b=>b.Minutes.Hi)
   show Range.mk _ _=Range.mk _ _
   rw [k1,k2];rfl
structure Ends (S:List mantle_sight) (g b:Int):Prop where
 top:∀ x∈S,x.bad=false→x.night≤g
 good:g = -1∨∃ x∈S,x.bad=false∧x.night=g
 low:∀ x∈S,x.bad=true→b ≠ -1∧b≤x.night
 bad:b = -1∨∃ x∈S,x.bad=true∧x.night=b
 g0 : -1≤g
 b0 : -1≤b
theorem Ends.uniq {S:List mantle_sight} {g b g' b':Int} (h:Ends S g b) (h':Ends S g' b'):g=g'∧b=b':=by
 constructor
 · rcases h.good with e|⟨x,hx,h1,h2⟩ <;> rcases h'.good with e'|⟨y,hy,h3,h4⟩
   · omega
   · have:=h.top y hy h3;have:=h'.g0;have:=h.g0;omega
   · have:=h'.top x hx h1;have:=h'.g0;have:=h.g0;omega
   · have:=h.top y hy h3;have:=h'.top x hx h1;omega
 · rcases h.bad with e|⟨x,hx,h1,h2⟩ <;> rcases h'.bad with e'|⟨y,hy,h3,h4⟩
   · omega
   · exact absurd e (h.low y hy h3).1
   · exact absurd e' (h'.low x hx h1).1
   · have:=(h.low y hy h3).2;have:=(h'.low x hx h1).2;omega
theorem zmU (c:mantle_coat) (hn:∀ x∈c.sights,0≤x.night):Wp (zbG c) (fun r=>Ends c.sights r.1 r.2):=by
 unfold zbG
 refine zco (fun i s=>Ends (c.sights.take i) s.1 s.2) ⟨fun x hx=>by simp [-List.getD_eq_getElem?_getD] at hx,.inl rfl,fun x hx=>by simp [-List.getD_eq_getElem?_getD] at hx,.inl rfl,by decide,by decide⟩ (fun i s K hi hI hK=>?_) (fun s hs=>zat (by rw [List.take_length] at hs;exact hs))
 obtain ⟨g,b⟩:=s
 obtain ⟨h1,h2,h3,h4,h5,h6⟩:=hI
 simp only at h1 h2 h3 h4 h5 h6 ⊢
 have e:c.sights.getD i default=c.sights.getD i default:=rfl
 have hm:=zbq hi
 have h0:=hn _ hm
 generalize hx:c.sights.getD i default=x at hm h0 ⊢
 have hmem:∀ y,y∈c.sights.take (i+1)↔y∈c.sights.take i∨y=x:=fun y=>by rw [zbU hi,hx];simp [-List.getD_eq_getElem?_getD]
 refine zcx (fun hb=>hK _ ?_) (fun hb=>?_)
 · have hb':x.bad=false:=by simpa [-List.getD_eq_getElem?_getD] using hb
   refine ⟨fun y hy hyb=>?_,?_,fun y hy hyb=>?_,?_,?_,h6⟩
   · rcases (hmem y).1 hy with hy|rfl
     · have:=h1 y hy hyb;simp only;omega
     · simp only;omega
   · simp only
     rcases Int.le_total g x.night with hle|hle
     · exact .inr ⟨x,(hmem x).2 (.inr rfl),hb',by omega⟩
     · rcases h2 with e|⟨y,hy,y1,y2⟩
       · exact .inr ⟨x,(hmem x).2 (.inr rfl),hb',by omega⟩
       · exact .inr ⟨y,(hmem y).2 (.inl hy),y1,by omega⟩
   · rcases (hmem y).1 hy with hy|rfl
     · exact h3 y hy hyb
     · rw [hb'] at hyb;cases hyb
   · rcases h4 with e|⟨y,hy,y1,y2⟩
     · exact .inl e
     · exact .inr ⟨y,(hmem y).2 (.inl hy),y1,y2⟩
   · simp only;omega
 · have hb':x.bad=true:=by simpa [-List.getD_eq_getElem?_getD] using hb
   refine zcx (fun hc=>hK _ ?_) (fun hc=>hK _ ?_)
   · simp only [Bool.or_eq_true,decide_eq_true_eq] at hc
     refine ⟨fun y hy hyb=>?_,?_,fun y hy hyb=>?_,.inr ⟨x,(hmem x).2 (.inr rfl),hb',rfl⟩,h5,by simp only;omega⟩
     · rcases (hmem y).1 hy with hy|rfl
       · exact h1 y hy hyb
       · rw [hb'] at hyb;cases hyb
     · rcases h2 with e|⟨y,hy,y1,y2⟩
       · exact .inl e
       · exact .inr ⟨y,(hmem y).2 (.inl hy),y1,y2⟩
     · simp only
       rcases (hmem y).1 hy with hy|rfl
       · have:=h3 y hy hyb;omega
       · omega
   · simp only [Bool.or_eq_false_iff,decide_eq_false_iff_not] at hc
     refine ⟨fun y hy hyb=>?_,?_,fun y hy hyb=>?_,?_,h5,h6⟩
     · rcases (hmem y).1 hy with hy|rfl
       · exact h1 y hy hyb
       · rw [hb'] at hyb;cases hyb
     · rcases h2 with e|⟨y,hy,y1,y2⟩
       · exact .inl e
       · exact .inr ⟨y,(hmem y).2 (.inl hy),y1,y2⟩
     · rcases (hmem y).1 hy with hy|rfl
       · exact h3 y hy hyb
       · simp only;omega
     · rcases h4 with e|⟨y,hy,y1,y2⟩
       · exact .inl e
       · exact .inr ⟨y,(hmem y).2 (.inl hy),y1,y2⟩
theorem zof {w:Wear} (V:WearOk w) {known m f t t':Int} (h:t≤t'):zgG w known m f t≤zgG w known m f t':=by
 refine zf9 (fun i hi=>by have:=(zjT V hi).min;omega) (fun i hi hp=>?_)
 simp only [zeW,Bool.and_eq_true,decide_eq_true_eq] at hp ⊢
 exact ⟨hp.1,hp.2.1,by omega⟩
theorem zfA {w:Wear} (V:WearOk w) {known m f f' t t':Int} (h:t≤t') (hf:f'≤f):zeV w known m f t≤zeV w known m f' t':=by
 refine zf9 (fun i hi=>by have:=(zjT V hi).min;omega) (fun i hi hp=>?_)
 simp only [zeW,Bool.and_eq_true,decide_eq_true_eq] at hp ⊢
 exact ⟨hp.1,by omega,by omega⟩
theorem zjV {w:Wear} (V:WearOk w) (known m f t:Int):(0≤zgG w known m f t∧zgG w known m f t≤86400)∧(0≤zeV w known m f t∧zeV w known m f t≤86400):=sum60 V _ (Nat.le_refl _)
structure OkBy (w:Wear) (known m:Int) (S:List mantle_sight) (x:Int):Prop where
 range:0≤x∧x≤1000000
 good:∀ s∈S,s.bad=false→zgG w known m (-1) s.night≤x
 bad:∀ s∈S,s.bad=true→x<zeV w known m (-1) s.night
 two:∀ s∈S,∀ t∈S,s.bad=false→t.bad=true→s.night<t.night∧0<zeV w known m s.night t.night
def zil (w:Wear) (known m g b:Int):Range:=
 if g ≠ -1∧b ≠ -1∧(b≤g∨zeV w known m g b=0) then ⟨1,0⟩ else ⟨if g ≠ -1 then zgG w known m (-1) g else 0,if b ≠ -1 then min 1000000 (zeV w known m (-1) b - 1) else 1000000⟩
def inR (r:Range) (x:Int):Prop:=r.Lo≤x∧x≤r.Hi
theorem zi7 {w:Wear} (V:WearOk w) {known:Int} {m:Nat} {S:List mantle_sight} {c:mantle_coat} (hc:CoatOk w known m S c) (hn:∀ x∈S,0≤x.night) {g b:Int} (he:Ends S g b):za3 c=some (zil w known m g b):=by
 unfold za3
 obtain ⟨r,e,hr⟩:=zmU c (by rw [hc.sights];exact hn)
 rw [hc.sights] at hr
 obtain ⟨e1,e2⟩:=hr.uniq he
 have er:r=(g,b):=Prod.ext e1 e2
 subst er
 refine Wp.eq (zau e ?_)
 have hb:=zjV V known m
 unfold zil
 refine ze9 (fun s=>s=if g ≠ -1 then zgG w known m (-1) g else 0) (fun K hK=>?_) (fun s hs=>?_)
 · refine zg7 (fun h=>zau (zll V hc _ _) (hK _ ?_)) (fun h=>hK _ ?_)
   · rw [if_pos h]
   · rw [if_neg (by omega)]
 subst hs
 refine ze9 (fun s=>s=if b ≠ -1 then min 1000000 (zeV w known m (-1) b - 1) else 1000000) (fun K hK=>?_) (fun s hs=>?_)
 · refine zg7 (fun h=>zau (zll V hc _ _) (zai (by have:=hb (-1) b;simp only;omega) (hK _ ?_))) (fun h=>hK _ ?_)
   · rw [if_pos h]
   · rw [if_neg (by omega)]
 subst hs
 refine zkC (Q:=fun y=>y=⟨zgG w known m g b,zeV w known m g b⟩) (fun _=>⟨_,zll V hc _ _,rfl⟩) (fun y hy=>?_)
 simp only [Bool.and_eq_true,Bool.not_eq_true',decide_eq_false_iff_not] at hy
 refine zcx (fun h=>zat ?_) (fun h=>zat ?_)
 · simp only [Bool.and_eq_true,Bool.or_eq_true,Bool.not_eq_true',decide_eq_false_iff_not,decide_eq_true_eq] at h
   obtain ⟨⟨h1,h2⟩,h3⟩:=h
   have:b≤g∨zeV w known m g b=0:=by
    rcases h3 with h3|h3
    · exact .inl h3
    · by_cases h4:b≤g
      · exact .inl h4
      · rw [hy ⟨⟨h1,h2⟩,h4⟩] at h3;exact .inr h3
   rw [if_pos ⟨h1,h2,this⟩]
 · have:¬ (g ≠ -1∧b ≠ -1∧(b≤g∨zeV w known m g b=0)):=by
    rintro ⟨h1,h2,h3⟩
    have h5:(((!decide (g=(-1))) && (!decide (b=(-1)))) && ((decide (b≤g)) || (decide (y.Hi=0))))=true:=by
     simp only [Bool.and_eq_true,Bool.or_eq_true,Bool.not_eq_true',decide_eq_false_iff_not,decide_eq_true_eq]
     refine ⟨⟨h1,h2⟩,?_⟩
     by_cases h4:b≤g
     · exact .inl h4
     · rw [hy ⟨⟨h1,h2⟩,h4⟩];exact .inr (h3.resolve_left h4)
    rw [h5] at h;cases h
   rw [if_neg this]
theorem zjz {w:Wear} (V:WearOk w) {known m:Int} {S:List mantle_sight} (hn:∀ x∈S,0≤x.night) {g b:Int} (he:Ends S g b) (x:Int):inR (zil w known m g b) x↔OkBy w known m S x:=by
 have hb:=zjV V known m
 unfold zil
 by_cases hc:g ≠ -1∧b ≠ -1∧(b≤g∨zeV w known m g b=0)
 · rw [if_pos hc]
   obtain ⟨c1,c2,c3⟩:=hc
   refine ⟨fun h=>by have:=h.1;have:=h.2;simp only at *;omega,fun h=>?_⟩
   obtain ⟨s,hs,s1,s2⟩:=he.good.resolve_left c1
   obtain ⟨t,ht,t1,t2⟩:=he.bad.resolve_left c2
   have:=h.two s hs t ht s1 t1
   rw [s2,t2] at this
   omega
 · rw [if_neg hc]
   unfold inR
   simp only
   constructor
   · rintro ⟨h1,h2⟩
     refine ⟨?_,fun s hs sb=>?_,fun s hs sb=>?_,fun s hs t ht sb tb=>?_⟩
     · have:=hb (-1) g;have:=hb (-1) b
       constructor
       · split at h1 <;> omega
       · split at h2 <;> omega
     · have a:=he.top s hs sb
       have a0:=hn s hs
       rw [if_pos (by omega)] at h1
       have:=zof V (known:=known) (m:=m) (f:=-1) a
       omega
     · have a:=he.low s hs sb
       rw [if_pos a.1] at h2
       have:=zfA V (known:=known) (m:=m) (f:=-1) a.2 (Int.le_refl _)
       omega
     · have a:=he.top s hs sb
       have a0:=hn s hs
       have a2:=he.low t ht tb
       have:¬ (b≤g∨zeV w known m g b=0):=fun h=>hc ⟨by omega,a2.1,h⟩
       have h3:0<zeV w known m g b:=by have:=hb g b;omega
       have h4:=zfA V (known:=known) (m:=m) (f:=g) (f':=s.night) a2.2 a
       exact ⟨by omega,by omega⟩
   · intro h
     have hr:=h.range
     constructor
     · by_cases c1:g ≠ -1
       · rw [if_pos c1]
         obtain ⟨s,hs,s1,s2⟩:=he.good.resolve_left c1
         rw [← s2];exact h.good s hs s1
       · rw [if_neg c1];exact hr.1
     · by_cases c2:b ≠ -1
       · rw [if_pos c2]
         obtain ⟨t,ht,t1,t2⟩:=he.bad.resolve_left c2
         have:=h.bad t ht t1
         rw [t2] at this;omega
       · rw [if_neg c2];exact hr.2
theorem zjM (S:List mantle_sight) (hn:∀ x∈S,0≤x.night):∃ g b,Ends S g b:=by
 obtain ⟨r,_,h⟩:=zmU ⟨zpj,[],S⟩ hn
 exact ⟨_,_,h⟩
theorem zmn {c:mantle_coat} {w:Wear} {known:Int} {m:Nat} {S:List mantle_sight} (hc:CoatOk w known m S c) (x:mantle_sight) (hl:S.length≤1000000):Wp (zbg c x) (fun r=>CoatOk w known m (S++[x]) r):=by
 unfold zbg zbP
 have e:=hc.sights
 refine wp_bind (Q:=fun y=>y=S) (zbO (by rw [e];simp [-List.getD_eq_getElem?_getD];omega) (zat (by rw [e];simp [-List.getD_eq_getElem?_getD]))) (fun y hy=>?_)
 subst hy
 exact zbO (by simp [-List.getD_eq_getElem?_getD];omega) (zat ⟨hc.wear,hc.burns,rfl⟩)
end Go.Sp
end
/- Plain laws, mantle: the closet that hang fills. No program in sight. -/
section
set_option linter.all false
namespace Go.Sp
open Go.Av
set_option maxRecDepth 100000
def ba (w:Wear) (i:Nat):Batch:=w.Batches.getD i default
def bat (w:Wear) (i:Nat):Int:=zdh w (mt w i).Batch
theorem zfz {w:Wear} (V:WearOk w) {i:Nat} (hi:i<w.Mantles.length):0≤bat w i∧bat w i<(w.Batches.length:Int):=by
 refine ⟨?_,zjU w _⟩
 rcases Int.lt_or_le (bat w i) 0 with h|h
 · exact absurd (V.has i hi) (zgW.1 h)
 · exact h
structure Hung (w:Wear) (known:Int) (S:Nat→List mantle_sight) (c:mantle_closet):Prop where
 wear:c.w=w
 asof:c.known=known
 coats:∀ i:Nat,i<w.Mantles.length→∃ x,c.coats.get (i:Int)=some x∧CoatOk w known i (S i) x
 len:c.lives.length=w.Batches.length
 lives:∀ b:Nat,b<w.Batches.length→∀ x,inR (c.lives.getD b default) x↔inR (ba w b).Life x∧∀ i,i<w.Mantles.length→bat w i=(b:Int)→OkBy w known i (S i) x
 nights:∀ i,i<w.Mantles.length→∀ s∈S i,0≤s.night
 few:∀ i,i<w.Mantles.length→(S i).length≤1000
def lk (l:List Look) (i:Nat):Look:=l.getD i default
def zdj (w:Wear) (known:Int) (l:List Look) (m:Nat):Nat→List mantle_sight
 | 0=>[]
 | n+1=>if fit w (lk l n).Lamp (lk l n).Night known=(m:Int)∧zas (lk l n).Known (lk l n).Until known=true then zdj w known l m n++[⟨(lk l n).Night,(lk l n).Bad⟩] else zdj w known l m n
def sights (w:Wear) (known:Int) (l:List Look) (m:Nat):List mantle_sight:=zdj w known l m l.length
theorem zeK {w:Wear} {known:Int} {l:List Look} {m:Nat} {s:mantle_sight}:∀ {n:Nat},s∈zdj w known l m n↔∃ i,i<n∧fit w (lk l i).Lamp (lk l i).Night known=(m:Int)∧zas (lk l i).Known (lk l i).Until known=true∧s=⟨(lk l i).Night,(lk l i).Bad⟩
 | 0=>⟨fun h=>(by cases h),fun ⟨i,hi,_⟩=>absurd hi (Nat.not_lt_zero _)⟩
 | n+1=>by
  unfold zdj
  by_cases hc:fit w (lk l n).Lamp (lk l n).Night known=(m:Int)∧zas (lk l n).Known (lk l n).Until known=true
  · rw [if_pos hc,List.mem_append,List.mem_singleton,zeK]
    constructor
    · rintro (⟨i,hi,h⟩|h)
      · exact ⟨i,by omega,h⟩
      · exact ⟨n,by omega,hc.1,hc.2,h⟩
    · rintro ⟨i,hi,h⟩
      by_cases e:i=n
      · subst e;exact .inr h.2.2
      · exact .inl ⟨i,by omega,h⟩
  · rw [if_neg hc,zeK]
    constructor
    · rintro ⟨i,hi,h⟩;exact ⟨i,by omega,h⟩
    · rintro ⟨i,hi,h⟩
      by_cases e:i=n
      · subst e;exact absurd ⟨h.1,h.2.1⟩ hc
      · exact ⟨i,by omega,h⟩
theorem zhe {w:Wear} {known:Int} {l:List Look} {m:Nat}:∀ n,(zdj w known l m n).length≤n
 | 0=>by simp [-List.getD_eq_getElem?_getD,zdj]
 | n+1=>by
  unfold zdj
  have:=zhe (w:=w) (known:=known) (l:=l) (m:=m) n
  split
  · simp [-List.getD_eq_getElem?_getD];omega
  · omega
theorem znG {a b:Range} {x:Int}:inR (zaX a b) x↔inR a x∧inR b x:=by
 unfold zaX inR;simp only;omega
theorem zmV (c:mantle_closet) (hl:c.w.Mantles.length≤60):za6 c=some ((List.range' 0 c.w.Mantles.length).map (fun i:Nat=>((i:Int),(c.coats.get (i:Int)).getD default))):=by
 unfold za6
 rw [zgN (by omega),zn9 (fun _=>true) (fun i:Nat=>((i:Int),(c.coats.get (i:Int)).getD default)) (fun i r hi=>rfl)]
 rw [List.filter_eq_self.2 (fun _ _=>rfl)]
theorem zml {A S R:Type} {body:A→S→(S→Option R)→Option R} {ex:S→Option R} {s0:S} {P:R→Prop} (n:Nat) (f:Nat→A) (Inv:Nat→S→Prop) (h0:Inv 0 s0)
 (hb:∀ (j:Nat) s (K:S→Option R),j<n→Inv j s→(∀ s',Inv (j+1) s'→Wp (K s') P)→Wp (body (f j) s K) P) (he:∀ s,Inv n s→Wp (ex s) P):Wp (zf0 body ex ((List.range' 0 n).map f) s0) P:=by
 have go:∀ (m j:Nat),j+m=n→∀ s,Inv j s→Wp (zf0 body ex ((List.range' j m).map f) s) P:=by
  intro m
  induction m with
  | zero=>intro j hj s hs;have e:j=n:=(by omega);subst e;exact he s hs
  | succ m ih=>
   intro j hj s hs
   rw [List.range'_succ,List.map_cons]
   exact hb j s _ (by omega) hs (fun s' h'=>ih (j+1) (by omega) s' h')
 exact go n 0 (by omega) s0 h0
theorem zoI {c:mantle_closet} {b:Nat} (hb:b<c.lives.length) (r:Range):zbp c (b:Int) r=some ⟨c.w,c.known,c.coats,c.lives.set b (zaX (c.lives.getD b default) r)⟩:=by
 unfold zbp
 rw [zgN (by omega),zgN (by omega)]
 rfl
theorem Mp.zkW {T:Type} (m:Mp T) (k j:Int) (x:T):(m.set k x).get j=if j=k then some x else m.get j:=rfl
theorem zkT {w:Wear} (V:WearOk w) {fuel:Nat} (hf:1000≤fuel) {l:List Look} (hl:l.length≤1000) (hn:∀ x∈l,0≤x.Night) (known:Int):Wp (zb7 fuel w l known) (fun c=>Hung w known (sights w known l) c):=by
 have nm:=V.nm;have nb:=V.nb
 unfold zb7
 refine wp_bind (zqn V hf known) (fun y1 hy1=>zaq (by omega) ?_)
 refine zco (fun i s=>∀ j:Nat,j<i→∃ x,s.get (j:Int)=some x∧CoatOk w known j [] x) (fun j hj=>absurd hj (Nat.not_lt_zero _)) (fun i s K hi hI hK=>hK _ (fun j hj=>?_)) (fun s3 h3=>?_)
 · by_cases e:j=i
   · subst e
     exact ⟨_,by rw [Mp.zkW,if_pos rfl],rfl,hy1 _,rfl⟩
   · rw [Mp.zkW,if_neg (by omega)]
     exact hI j (by omega)
 refine zco (fun i s=>∀ j:Nat,j<w.Mantles.length→∃ x,s.get (j:Int)=some x∧CoatOk w known j (zdj w known l j i) x) h3 (fun i s K hi hI hK=>?_) (fun s5 h5=>?_)
 · refine zau (zhN w _ _ known) ?_
   have hfl:=zjE w (l.getD i default).Lamp (l.getD i default).Night known
   refine zcx (fun h=>?_) (fun h=>hK _ (fun j hj=>?_))
   · simp only [Bool.and_eq_true,decide_eq_true_eq] at h
     obtain ⟨m,hm⟩:∃ m:Nat,fit w (l.getD i default).Lamp (l.getD i default).Night known=(m:Int):=⟨_,(Int.toNat_of_nonneg h.1).symm⟩
     rw [hm] at hfl ⊢
     obtain ⟨x,e,hx⟩:=hI m (by omega)
     rw [e]
     refine wp_bind (zmn hx _ (by have:=zhe (w:=w) (known:=known) (l:=l) (m:=m) i;omega)) (fun y hy=>hK _ (fun j hj=>?_))
     by_cases ej:j=m
     · subst ej
       refine ⟨y,by rw [Mp.zkW,if_pos rfl],?_⟩
       unfold zdj
       rw [if_pos ⟨hm,h.2⟩]
       exact hy
     · rw [Mp.zkW,if_neg (by omega)]
       unfold zdj
       rw [if_neg (fun h'=>ej (by have:=h'.1.symm.trans hm;omega))]
       exact hI j hj
   · unfold zdj
     rw [if_neg (fun h'=>?_)]
     · exact hI j hj
     · rw [Bool.and_eq_false_iff,decide_eq_false_iff_not] at h
       rcases h with h|h
       · exact h (by have:=h'.1;unfold lk at this;omega)
       · have:=h'.2;unfold lk at this;rw [this] at h;cases h
 refine zco (fun i s=>s.length=i∧∀ b,b<i→s.getD b default=(ba w b).Life) ⟨rfl,fun b hb=>absurd hb (Nat.not_lt_zero _)⟩ (fun i s K hi hI hK=>zbO (by simp [-List.getD_eq_getElem?_getD];omega) (hK _ ⟨by simp [-List.getD_eq_getElem?_getD,hI.1],fun b hb=>?_⟩)) (fun s12 h12=>?_)
 · rw [zcj]
   by_cases e:b=s.length
   · rw [if_pos e,e,hI.1];rfl
   · rw [if_neg e];exact hI.2 b (by omega)
 refine zau (zmV _ nm) ?_
 refine zml w.Mantles.length _ (fun j s=>s.length=w.Batches.length∧∀ b:Nat,b<w.Batches.length→∀ x,inR (s.getD b default) x↔inR (ba w b).Life x∧∀ i,i<j→bat w i=(b:Int)→OkBy w known i (sights w known l i) x)
  ⟨h12.1,fun b hb x=>by rw [h12.2 b hb];exact ⟨fun h=>⟨h,fun i hi=>absurd hi (Nat.not_lt_zero _)⟩,fun h=>h.1⟩⟩ (fun j s K hj hI hK=>?_) (fun s hs=>zat ?_)
 · obtain ⟨x,e,hx⟩:=h5 j hj
   have hsn:∀ y∈sights w known l j,0≤y.night:=fun y hy=>by
    obtain ⟨i,hi,_,_,e⟩:=zeK.1 hy
    rw [e];exact hn _ (zbq hi)
   obtain ⟨g,b,he⟩:=zjM (sights w known l j) hsn
   refine zaq (by omega) (zau (zgV w _) ?_)
   simp only [Int.toNat_natCast]
   have hbt:=zfz V hj
   have ebt:zdh w (w.Mantles.getD j default).Batch=bat w j:=rfl
   rw [e,ebt]
   obtain ⟨q,hq⟩:∃ q:Nat,bat w j=(q:Int):=⟨_,(Int.toNat_of_nonneg hbt.1).symm⟩
   rw [hq] at hbt ⊢
   refine zau (zi7 V hx hsn he) (zau (zoI (c:=⟨w,known,s5,s⟩) (by simp only;omega) _) (zaq (by simp [-List.getD_eq_getElem?_getD]) (hK _ ⟨by simp [-List.getD_eq_getElem?_getD,hI.1],fun b' hb' y=>?_⟩)))
   have hlm:=zjz V hsn he y (known:=known) (m:=(j:Int))
   simp only
   rw [zhL _ _ _ _ _ (by omega)]
   by_cases eb:b'=q
   · subst eb
     rw [if_pos rfl,znG,hI.2 b' hb',hlm]
     constructor
     · rintro ⟨⟨a1,a2⟩,a3⟩
       refine ⟨a1,fun i hi hbi=>?_⟩
       by_cases ei:i=j
       · rw [ei];exact a3
       · exact a2 i (by omega) hbi
     · rintro ⟨a1,a2⟩
       exact ⟨⟨a1,fun i hi hbi=>a2 i (by omega) hbi⟩,a2 j (by omega) hq⟩
   · rw [if_neg eb,hI.2 b' hb']
     constructor
     · rintro ⟨a1,a2⟩
       refine ⟨a1,fun i hi hbi=>?_⟩
       by_cases ei:i=j
       · rw [ei,hq] at hbi;omega
       · exact a2 i (by omega) hbi
     · rintro ⟨a1,a2⟩
       exact ⟨a1,fun i hi hbi=>a2 i (by omega) hbi⟩
 · refine ⟨rfl,rfl,h5,hs.1,hs.2,fun i hi y hy=>?_,fun i hi=>?_⟩
   · obtain ⟨k,hk,_,_,e⟩:=zeK.1 hy
     rw [e];exact hn _ (zbq hk)
   · exact Nat.le_trans (zhe _) hl
def zcF (w:Wear) (known:Int) (S:Nat→List mantle_sight):Prop:=∀ b:Nat,b<w.Batches.length→∃ x,inR (ba w b).Life x∧∀ i,i<w.Mantles.length→bat w i=(b:Int)→OkBy w known i (S i) x
theorem ziq {w:Wear} {known:Int} {S:Nat→List mantle_sight} {c:mantle_closet} (h:Hung w known S c):Wp (zaN c) (fun r=>r=true↔zcF w known S):=by
 unfold zaN
 refine zau (show zbJ c.lives _=_ from ze2 (q:=zaT) (fun x=>rfl) _) (zat ?_)
 rw [Bool.not_eq_true',List.any_eq_false]
 constructor
 · intro h1 b hb
   have h2:=h1 _ (zbq (l:=c.lives) (i:=b) (by rw [h.len];exact hb))
   have h3:(c.lives.getD b default).Lo≤(c.lives.getD b default).Hi:=by
    simp only [zaT,decide_eq_true_eq] at h2;omega
   exact ⟨_,(h.lives b hb _).1 ⟨Int.le_refl _,h3⟩⟩
 · intro h1 r hr
   obtain ⟨b,hb,rfl⟩:=zdv hr
   obtain ⟨x,hx⟩:=h1 b (by rw [← h.len];exact hb)
   have:=(h.lives b (by rw [← h.len];exact hb) x).2 hx
   unfold inR at this
   simp only [zaT,decide_eq_true_eq];omega
end Go.Sp
end
/- Plain laws, mantle: whether a mantle is bad. No program in sight. -/
section
set_option linter.all false
namespace Go.Sp
open Go.Av
set_option maxRecDepth 100000
def zfl (w:Wear) (known:Int) (S:Nat→List mantle_sight) (m:Nat) (night:Int) (bad:Bool):Prop:=
 ∃ x,(inR (ba w (bat w m).toNat).Life x∧∀ i,i<w.Mantles.length→bat w i=bat w m→OkBy w known i (S i) x)∧OkBy w known m (S m++[⟨night,bad⟩]) x
open Classical in
noncomputable def stateR (w:Wear) (known:Int) (S:Nat→List mantle_sight) (m:Nat) (night:Int):Int:=
 if ¬ zfl w known S m night true then 0 else if ¬ zfl w known S m night false then 1 else 2
theorem zlh {w:Wear} {known:Int} {S:Nat→List mantle_sight} {c:mantle_closet} (h:Hung w known S c) {m:Nat} (hm:m<w.Mantles.length):zaV c (m:Int)=some (bat w m):=by
 unfold zaV
 rw [h.wear,zgN (by omega)]
 refine Wp.eq (zau (zgV w _) (zat ?_))
 rfl
theorem zqD {w:Wear} (V:WearOk w) {known:Int} {S:Nat→List mantle_sight} {c:mantle_closet} (h:Hung w known S c) {m:Nat} (hm:m<w.Mantles.length) {night:Int} (hn:0≤night) (bad:Bool) :
 Wp (zbQ c (m:Int) night bad) (fun r=>∀ x,inR r x↔(inR (ba w (bat w m).toNat).Life x∧∀ i,i<w.Mantles.length→bat w i=bat w m→OkBy w known i (S i) x)∧OkBy w known m (S m++[⟨night,bad⟩]) x):=by
 unfold zbQ
 have hb:=zfz V hm
 obtain ⟨x,e,hx⟩:=h.coats m hm
 obtain ⟨q,hq⟩:∃ q:Nat,bat w m=(q:Int):=⟨_,(Int.toNat_of_nonneg hb.1).symm⟩
 refine zau (zlh h hm) ?_
 rw [hq] at hb ⊢
 refine zaq (by rw [h.len];omega) ?_
 rw [e]
 refine wp_bind (zmn hx _ (by have:=h.few m hm;omega)) (fun y hy=>?_)
 have hsn:∀ s∈S m++[⟨night,bad⟩],0≤s.night:=fun s hs=>by
  rcases List.mem_append.1 hs with hs|hs
  · exact h.nights m hm s hs
  · rw [List.mem_singleton] at hs;subst hs;exact hn
 obtain ⟨g,b,he⟩:=zjM _ hsn
 refine zau (zi7 V hy hsn he) (zat (fun z=>?_))
 rw [znG,zjz V hsn he,Int.toNat_natCast,h.lives q (by omega)]
theorem znh {r:Range}:zaT r=true↔∀ x,¬ inR r x:=by
 unfold zaT inR
 rw [decide_eq_true_eq]
 exact ⟨fun h x hx=>by omega,fun h=>by have:=h r.Lo;omega⟩
theorem zm6 {w:Wear} (V:WearOk w) {known:Int} {S:Nat→List mantle_sight} {c:mantle_closet} (h:Hung w known S c) {m:Nat} (hm:m<w.Mantles.length) {night:Int} (hn:0≤night):zaU c (m:Int) night=some (stateR w known S m night):=by
 unfold zaU
 refine Wp.eq (wp_bind (zqD V h hm hn true) (fun y1 h1=>?_))
 have e1:zaT y1=true↔¬ zfl w known S m night true:=by
  rw [znh]
  exact ⟨fun k ⟨x,hx⟩=>k x ((h1 x).2 hx),fun k x hx=>k ⟨x,(h1 x).1 hx⟩⟩
 unfold stateR
 refine zcx (fun hb=>zat ?_) (fun hb=>wp_bind (zqD V h hm hn false) (fun y4 h4=>?_))
 · rw [if_pos (e1.1 hb)]
 have c1:¬ ¬ zfl w known S m night true:=fun k=>by rw [e1.2 k] at hb;cases hb
 rw [if_neg c1]
 have e4:zaT y4=true↔¬ zfl w known S m night false:=by
  rw [znh]
  exact ⟨fun k ⟨x,hx⟩=>k x ((h4 x).2 hx),fun k x hx=>k ⟨x,(h4 x).1 hx⟩⟩
 refine zcx (fun hb=>zat ?_) (fun hb=>zat ?_)
 · rw [if_pos (e4.1 hb)]
 · rw [if_neg (fun k=>by rw [e4.2 k] at hb;cases hb)]
def zaP (n:Int):Prop:=0≤n∧n≤100000
instance (n:Int):Decidable (zaP n):=inferInstanceAs (Decidable (_∧_))
theorem zfM {n:Int}:zaK n=true↔zaP n:=by simp [-List.getD_eq_getElem?_getD,zaK,zay,zaP]
theorem zhG {w:Wear} (V:WearOk w) {l:List Int} (h:∀ n∈l,zaP n):zba w l=some 0:=by
 unfold zba
 refine Wp.eq (zau (zhI V) (zaL (by simp [-List.getD_eq_getElem?_getD]) (zau (show zbl l _=_ from ze2 (q:=zbm) (fun x=>rfl) _) ?_)))
 refine zaL ?_ (zat rfl)
 rw [List.any_eq_false]
 intro n hn
 simp [-List.getD_eq_getElem?_getD,zbm,zfM.2 (h n hn)]
theorem zif {w:Wear} (V:WearOk w) {l:List Int} (h:¬ ∀ n∈l,zaP n):zba w l=some 6:=by
 unfold zba
 refine Wp.eq (zau (zhI V) (zaL (by simp [-List.getD_eq_getElem?_getD]) (zau (show zbl l _=_ from ze2 (q:=zbm) (fun x=>rfl) _) ?_)))
 refine zcs ?_ (zat rfl)
 rw [List.any_eq_true]
 refine Classical.byContradiction (fun k=>h (fun n hn=>?_))
 refine Classical.byContradiction (fun k2=>k ⟨n,hn,?_⟩)
 unfold zbm
 cases h3:zaK n with
 | false=>rfl
 | true=>exact absurd (zfM.1 h3) k2
theorem zki {w:Wear} (hf:Fits w) (V:¬ WearOk w) (l:List Int):zba w l=some 64:=by
 unfold zba
 exact Wp.eq (zau (znZ hf V) (zcs (by simp [-List.getD_eq_getElem?_getD]) (zat rfl)))
def zcB (w:Wear) (lamp night known:Int):Int:=if ¬ (1≤lamp∧lamp≤999) then 1 else if ¬ (zaP night∧zaP known) then 6 else if fit w lamp night known<0 then 66 else 0
theorem zlO {w:Wear} {lamp night known:Int} (h:¬ (1≤lamp∧lamp≤999)):zcB w lamp night known=1:=by unfold zcB;exact if_pos h
theorem zlN {w:Wear} {lamp night known:Int} (h:1≤lamp∧lamp≤999) (h2:¬ (zaP night∧zaP known)):zcB w lamp night known=6:=by
 unfold zcB
 exact (if_neg (fun k=>k h)).trans (if_pos h2)
theorem zkl {w:Wear} {lamp night known:Int} (h:1≤lamp∧lamp≤999) (h2:zaP night∧zaP known) (h3:fit w lamp night known<0):zcB w lamp night known=66:=by
 unfold zcB
 exact (if_neg (fun k=>k h)).trans ((if_neg (fun k=>k h2)).trans (if_pos h3))
theorem zlP {w:Wear} {lamp night known:Int} (h:1≤lamp∧lamp≤999) (h2:zaP night∧zaP known) (h3:¬ fit w lamp night known<0):zcB w lamp night known=0:=by
 unfold zcB
 exact (if_neg (fun k=>k h)).trans ((if_neg (fun k=>k h2)).trans (if_neg h3))
theorem zoX {w:Wear} (V:WearOk w) (lamp night known:Int):zdg w lamp night known=some (if zcB w lamp night known=0 then fit w lamp night known else 0,zcB w lamp night known):=by
 unfold zdg
 refine Wp.eq (zau (zhI V) (zaL (by simp [-List.getD_eq_getElem?_getD]) ?_))
 have e:(!(zaJ lamp))=decide (¬ (1≤lamp∧lamp≤999)):=by
  rw [Bool.eq_iff_iff];simp [-List.getD_eq_getElem?_getD,zaJ,zay]
 rw [e]
 refine zbI (fun h=>zat ?_) (fun h=>?_)
 · rw [zlO h];rfl
 have h:=Classical.not_not.1 h
 by_cases hn:zaP night∧zaP known
 · refine zau (zhG V (fun n hn'=>by
    simp only [List.mem_cons,List.not_mem_nil,or_false] at hn'
    rcases hn' with rfl|rfl
    · exact hn.1
    · exact hn.2)) (zaL (by simp [-List.getD_eq_getElem?_getD]) (zau (zhN w _ _ _) ?_))
   refine zbI (fun h2=>zat ?_) (fun h2=>zat ?_)
   · rw [zkl h hn h2];rfl
   · rw [zlP h hn h2];rfl
 · rw [zlN h hn]
   exact zau (zif V (fun k=>hn ⟨k night (by simp [-List.getD_eq_getElem?_getD]),k known (by simp [-List.getD_eq_getElem?_getD])⟩)) (zcs (by simp [-List.getD_eq_getElem?_getD]) (zat rfl))
theorem zlM {w:Wear} {lamp night known:Int} (h:zcB w lamp night known=0):(1≤lamp∧lamp≤999)∧zaP night∧zaP known∧0≤fit w lamp night known:=by
 by_cases h1:1≤lamp∧lamp≤999
 · by_cases h2:zaP night∧zaP known
   · by_cases h3:fit w lamp night known<0
     · rw [zkl h1 h2 h3] at h;omega
     · exact ⟨h1,h2.1,h2.2,by omega⟩
   · rw [zlN h1 h2] at h;omega
 · rw [zlO h1] at h;omega
end Go.Sp
end
/- Plain laws, mantle: the document's lives and states. No program in sight. -/
section
set_option linter.all false
namespace Go.Sp
open Go.Av
set_option maxRecDepth 100000
structure ToldL (known:Int) (L:List Look):Prop where
 few:L.length≤900
 night:∀ l∈L,0≤l.Night
 cnt:∀ l∈L,zas l.Known l.Until known=true
def tells (w:Wear) (known:Int) (l:Look):Bool:=decide (0≤fit w l.Lamp l.Night known) && zas l.Known l.Until known
def zpF (w:Wear) (known:Int):List Look:=w.Looks.filter (tells w known)
theorem atR_2 {w:Wear} {lamp night known:Int}:(atR w lamp night known).2=decide (0≤fit w lamp night known):=by
 unfold atR
 by_cases h:fit w lamp night known<0
 · rw [if_pos h];simp [-List.getD_eq_getElem?_getD];omega
 · rw [if_neg h];simp [-List.getD_eq_getElem?_getD];omega
theorem look_ok {w:Wear} (V:WearOk w) {l:Look} (h:l∈w.Looks):zky l:=V.lo.ok h
theorem zqv {w:Wear} (V:WearOk w) {i j:Nat} (hi:i<w.Batches.length) (hj:j<w.Batches.length) (e:(ba w i).Id=(ba w j).Id):i=j:=V.ba.inj hi hj e
theorem zmD {w:Wear} (V:WearOk w) {q:Nat} (hq:q<w.Batches.length) {x:Int} (h:inR (ba w q).Life x):0≤x∧x≤1000000:=by
 have:=(V.ba q hq).1.life
 unfold inR ba at h
 omega
theorem zq6 {w:Wear} (V:WearOk w) {i q:Nat} (hi:i<w.Mantles.length) (hq:q<w.Batches.length):bat w i=(q:Int)↔(mt w i).Batch=(ba w q).Id:=by
 have hb:=zfz V hi
 have e:=zmf (w:=w) (id:=(mt w i).Batch) hb.1
 constructor
 · intro h
   rw [show zdh w (mt w i).Batch=(q:Int) from h] at e
   exact e.symm
 · intro h
   have:=zqv V (i:=(bat w i).toNat) (by omega) hq (e.trans h)
   omega
def ze8 (w:Wear) (known:Int) (S:Nat→List mantle_sight) (q:Nat) (x:Int):Prop:=inR (ba w q).Life x∧∀ i,i<w.Mantles.length→bat w i=(q:Int)→OkBy w known i (S i) x
end Go.Sp
end
/- Plain laws, mantle: states by both; MantleAges. No program in sight. -/
section
set_option linter.all false
namespace Go.Sp
open Go.Av
set_option maxRecDepth 100000
theorem zma {w:Wear} (V:WearOk w) {known:Int} {S:Nat→List mantle_sight} {m:Nat} (hm:m<w.Mantles.length) {night:Int} {bad:Bool} :
 zfl w known S m night bad↔∃ x,ze8 w known S (bat w m).toNat x∧OkBy w known m (S m++[⟨night,bad⟩]) x:=by
 have hb:=zfz V hm
 have e:(((bat w m).toNat:Nat):Int)=bat w m:=by omega
 unfold zfl ze8
 rw [e]
theorem zpp {w:Wear} (V:WearOk w) {known:Int} {S:List mantle_sight} {m:Int} {night g b x:Int} (hn:0≤night) (hS:∀ s∈S,0≤s.night) (he:Ends S g b) (h:OkBy w known m S x) :
 OkBy w known m (S++[⟨night,true⟩]) x↔g<night∧x<zeV w known m (-1) night∧(g ≠ -1→0<zeV w known m g night):=by
 constructor
 · intro k
   refine ⟨?_,k.bad ⟨night,true⟩ (by simp [-List.getD_eq_getElem?_getD]) rfl,fun hg=>?_⟩
   · by_cases hg:g = -1
     · omega
     · obtain ⟨s,hs,s1,s2⟩:=he.good.resolve_left hg
       have:=(k.two s (List.mem_append.2 (.inl hs)) ⟨night,true⟩ (by simp [-List.getD_eq_getElem?_getD]) s1 rfl).1
       simp only at this;omega
   · obtain ⟨s,hs,s1,s2⟩:=he.good.resolve_left hg
     have:=(k.two s (List.mem_append.2 (.inl hs)) ⟨night,true⟩ (by simp [-List.getD_eq_getElem?_getD]) s1 rfl).2
     rw [s2] at this;exact this
 · rintro ⟨k1,k2,k3⟩
   refine ⟨h.range,fun s hs s1=>?_,fun s hs s1=>?_,fun s hs t ht s1 t1=>?_⟩
   · rcases List.mem_append.1 hs with hs|hs
     · exact h.good s hs s1
     · rw [List.mem_singleton] at hs;subst hs;cases s1
   · rcases List.mem_append.1 hs with hs|hs
     · exact h.bad s hs s1
     · rw [List.mem_singleton] at hs;subst hs;exact k2
   · rcases List.mem_append.1 hs with hs|hs
     · rcases List.mem_append.1 ht with ht|ht
       · exact h.two s hs t ht s1 t1
       · rw [List.mem_singleton] at ht;subst ht
         have a:=he.top s hs s1
         have a0:=hS s hs
         have a2:=k3 (by omega)
         have:=zfA V (known:=known) (m:=m) (f:=g) (f':=s.night) (Int.le_refl night) a
         exact ⟨by simp only;omega,by simp only;omega⟩
     · rw [List.mem_singleton] at hs;subst hs;cases s1
theorem znF {w:Wear} (V:WearOk w) {known:Int} {S:List mantle_sight} {m:Int} {night g b x:Int} (hn:0≤night) (he:Ends S g b) (h:OkBy w known m S x) :
 OkBy w known m (S++[⟨night,false⟩]) x↔zgG w known m (-1) night≤x∧(b ≠ -1→night<b∧0<zeV w known m night b):=by
 constructor
 · intro k
   refine ⟨k.good ⟨night,false⟩ (by simp [-List.getD_eq_getElem?_getD]) rfl,fun hb=>?_⟩
   obtain ⟨s,hs,s1,s2⟩:=he.bad.resolve_left hb
   have:=k.two ⟨night,false⟩ (by simp [-List.getD_eq_getElem?_getD]) s (List.mem_append.2 (.inl hs)) rfl s1
   rw [s2] at this;exact this
 · rintro ⟨k1,k2⟩
   refine ⟨h.range,fun s hs s1=>?_,fun s hs s1=>?_,fun s hs t ht s1 t1=>?_⟩
   · rcases List.mem_append.1 hs with hs|hs
     · exact h.good s hs s1
     · rw [List.mem_singleton] at hs;subst hs;exact k1
   · rcases List.mem_append.1 hs with hs|hs
     · exact h.bad s hs s1
     · rw [List.mem_singleton] at hs;subst hs;cases s1
   · rcases List.mem_append.1 ht with ht|ht
     · rcases List.mem_append.1 hs with hs|hs
       · exact h.two s hs t ht s1 t1
       · rw [List.mem_singleton] at hs;subst hs
         have a:=he.low t ht t1
         have a2:=k2 a.1
         have:=zfA V (known:=known) (m:=m) (f:=night) (f':=night) a.2 (Int.le_refl _)
         exact ⟨by simp only;omega,by simp only;omega⟩
     · rw [List.mem_singleton] at ht;subst ht;cases t1
theorem zpI {w:Wear} {known:Int} {S:Nat→List mantle_sight} {m:Nat} {night:Int} (h:¬ zfl w known S m night true):stateR w known S m night=0:=by unfold stateR;exact if_pos h
theorem zpH {w:Wear} {known:Int} {S:Nat→List mantle_sight} {m:Nat} {night:Int} (h:zfl w known S m night true) (h2:¬ zfl w known S m night false):stateR w known S m night=1:=by unfold stateR;exact (if_neg (fun k=>k h)).trans (if_pos h2)
theorem zpG {w:Wear} {known:Int} {S:Nat→List mantle_sight} {m:Nat} {night:Int} (h:zfl w known S m night true) (h2:zfl w known S m night false):stateR w known S m night=2:=by unfold stateR;exact (if_neg (fun k=>k h)).trans (if_neg (fun k=>k h2))
end Go.Sp
end
/- Plain laws, mantle: State, Age, Fitted by both; MantleAges. No program in sight. -/
section
set_option linter.all false
namespace Go.Sp
open Go.Av
set_option maxRecDepth 100000
def zlv (w:Wear) (known:Int) (m:Nat) (l:Look):Bool:=decide (fit w l.Lamp l.Night known=(m:Int)) && zas l.Known l.Until known
def toS (l:Look):mantle_sight:=⟨l.Night,l.Bad⟩
theorem zke {w:Wear} {known:Int} {l:List Look} {m:Nat}:∀ {n:Nat},n≤l.length→zdj w known l m n=((l.take n).filter (zlv w known m)).map toS
 | 0,_=>rfl
 | n+1,h=>by
  rw [zbU (by omega),List.filter_append,List.map_append,← zke (by omega)]
  rw [show zdj w known l m (n+1)=if fit w (lk l n).Lamp (lk l n).Night known=(m:Int)∧zas (lk l n).Known (lk l n).Until known=true then zdj w known l m n++[⟨(lk l n).Night,(lk l n).Bad⟩] else zdj w known l m n from rfl]
  by_cases hc:fit w (lk l n).Lamp (lk l n).Night known=(m:Int)∧zas (lk l n).Known (lk l n).Until known=true
  · have:zlv w known m (l.getD n default)=true:=by unfold zlv;rw [Bool.and_eq_true,decide_eq_true_eq];exact hc
    rw [if_pos hc];simp [-List.getD_eq_getElem?_getD,this,toS,lk]
  · have:zlv w known m (l.getD n default)=false:=by
     rw [← Bool.not_eq_true];unfold zlv;rw [Bool.and_eq_true,decide_eq_true_eq];exact hc
    rw [if_neg hc];simp [-List.getD_eq_getElem?_getD,this]
theorem zkI (w:Wear) (known:Int) (l:List Look) (m:Nat):sights w known l m=(l.filter (zlv w known m)).map toS:=by
 unfold sights
 rw [zke (Nat.le_refl _),List.take_length]
theorem zfL {w:Wear} (V:WearOk w):w.Looks.length≤1000∧∀ x∈w.Looks,0≤x.Night:=⟨by have:=V.nl;omega,fun x hx=>(look_ok V hx).night.1⟩
abbrev allS (w:Wear) (known:Int):Nat→List mantle_sight:=sights w known w.Looks
theorem zm8 {w:Wear} (V:WearOk w) {fuel:Nat} (hf:1000≤fuel) (known:Int):Wp (zdI fuel w known) (fun r=>(zcF w known (allS w known)∧r.2=0∧Hung w known (allS w known) r.1)∨(¬ zcF w known (allS w known)∧r.2=65)):=by
 unfold zdI
 refine wp_bind (zkT V hf (zfL V).1 (zfL V).2 known) (fun c hc=>wp_bind (ziq hc) (fun b hb=>?_))
 refine zcx (fun h=>zat (.inr ⟨fun k=>?_,rfl⟩)) (fun h=>zat (.inl ⟨hb.1 (by simpa [-List.getD_eq_getElem?_getD] using h),rfl,hc⟩))
 rw [hb.2 k] at h;cases h
open Classical in
noncomputable def stateV (w:Wear) (lamp night known:Int):Int×Int:=
 if zcB w lamp night known≠0 then (0,zcB w lamp night known) else if zcF w known (allS w known) then (stateR w known (allS w known) (fit w lamp night known).toNat night,0) else (0,65)
theorem znO {w:Wear} {lamp night known:Int} (h:zcB w lamp night known≠0):stateV w lamp night known=(0,zcB w lamp night known):=by unfold stateV;exact if_pos h
theorem zlr {w:Wear} {lamp night known:Int} (h:zcB w lamp night known=0) (h2:zcF w known (allS w known)):stateV w lamp night known=(stateR w known (allS w known) (fit w lamp night known).toNat night,0):=by unfold stateV;exact (if_neg (fun k=>k h)).trans (if_pos h2)
theorem zls {w:Wear} {lamp night known:Int} (h:zcB w lamp night known=0) (h2:¬ zcF w known (allS w known)):stateV w lamp night known=(0,65):=by unfold stateV;exact (if_neg (fun k=>k h)).trans (if_neg h2)
theorem zoR {w:Wear} (V:WearOk w) {fuel:Nat} (hf:1000≤fuel) (lamp night known:Int):zc0 fuel w lamp night known=some (stateV w lamp night known):=by
 unfold zc0
 refine Wp.eq (zau (zoX V lamp night known) ?_)
 refine zg7 (fun h=>zat (znO h).symm) (fun h=>?_)
 have h:zcB w lamp night known=0:=h
 obtain ⟨h1,h2,h3,h4⟩:=zlM h
 simp only [h,if_true]
 have hlt:=zjE w lamp night known
 obtain ⟨m,hm⟩:∃ m:Nat,fit w lamp night known=(m:Int):=⟨_,(Int.toNat_of_nonneg h4).symm⟩
 refine wp_bind (zm8 V hf known) (fun r hr=>?_)
 rcases hr with ⟨k1,k2,k3⟩|⟨k1,k2⟩
 · refine zg7 (fun h=>absurd k2 h) (fun _=>?_)
   rw [hm] at hlt ⊢
   refine zau (zm6 V k3 (by omega) h2.1) (zat ?_)
   rw [zlr h k1,hm,Int.toNat_natCast]
 · refine zg7 (fun _=>zat ?_) (fun h=>by omega)
   rw [zls h k1,k2]
end Go.Sp
end
/- Plain laws, mantle: Life, Sound, Clash by both. No program in sight. -/
section
set_option linter.all false
namespace Go.Sp
open Go.Av
set_option maxRecDepth 100000
theorem zoG {known:Int} (h:zaP known):∀ n∈([known]:List Int),zaP n:=fun n hn=>by rw [List.mem_singleton] at hn;rw [hn];exact h
theorem zoF {known:Int} (h:¬ zaP known):¬ ∀ n∈([known]:List Int),zaP n:=fun k=>h (k known (by simp [-List.getD_eq_getElem?_getD]))
structure LifeV (w:Wear) (known:Int) (id:Int) (r:Range×Int):Prop where
 inv:¬ WearOk w→r=(⟨0,0⟩,64)
 day:WearOk w→¬ zaP known→r=(⟨0,0⟩,6)
 none:WearOk w→zaP known→zdh w id<0→r=(⟨0,0⟩,3)
 fals:WearOk w→zaP known→0≤zdh w id→¬ zcF w known (allS w known)→r=(⟨0,0⟩,65)
 ok:WearOk w→zaP known→0≤zdh w id→zcF w known (allS w known)→r.2=0∧∀ x,inR r.1 x↔ze8 w known (allS w known) (zdh w id).toNat x
theorem zpZ {w:Wear} (hw:Fits w) {fuel:Nat} (hf:1000≤fuel) (id known:Int):Wp (zd6 fuel w id known) (LifeV w known id):=by
 unfold zd6
 by_cases V:¬ WearOk w
 · exact zau (zki hw V _) (zcs (by simp [-List.getD_eq_getElem?_getD]) (zat ⟨fun _=>rfl,fun k=>absurd k V,fun k=>absurd k V,fun k=>absurd k V,fun k=>absurd k V⟩))
 have V:=Classical.not_not.1 V
 by_cases hn:zaP known
 · refine zau (zhG V (zoG hn)) (zaL (by simp [-List.getD_eq_getElem?_getD]) (zau (zgV w id) ?_))
   refine zbI (fun hb=>zat ⟨fun k=>absurd V k,fun _ k=>absurd hn k,fun _ _ _=>rfl,fun _ _ k=>by omega,fun _ _ k=>by omega⟩) (fun hb=>?_)
   refine wp_bind (zm8 V hf known) (fun r hr=>?_)
   rcases hr with ⟨k1,k2,k3⟩|⟨k1,k2⟩
   · refine zg7 (fun h=>absurd k2 h) (fun _=>?_)
     have hlt:=zjU w id
     refine zaq (by rw [k3.len];omega) (zat ⟨fun k=>absurd V k,fun _ k=>absurd hn k,fun _ _ k=>by omega,fun _ _ _ k=>absurd k1 k,fun _ _ _ _=>⟨rfl,fun x=>?_⟩⟩)
     rw [k3.lives _ (by omega)]
     rfl
   · refine zg7 (fun _=>zat ⟨fun k=>absurd V k,fun _ k=>absurd hn k,fun _ _ k=>by omega,fun _ _ _ _=>by rw [k2],fun _ _ _ k=>absurd k k1⟩) (fun h=>by omega)
 · refine zau (zif V (zoF hn)) (zcs (by simp [-List.getD_eq_getElem?_getD]) (zat ⟨fun k=>absurd V k,fun _ _=>rfl,fun _ k=>absurd k hn,fun _ k=>absurd k hn,fun _ k=>absurd k hn⟩))
structure SoundV (w:Wear) (known:Int) (r:Bool×Int):Prop where
 inv:¬ WearOk w→r=(false,64)
 day:WearOk w→¬ zaP known→r=(false,6)
 ok:WearOk w→zaP known→r.2=0∧(r.1=true↔zcF w known (allS w known))
theorem zoS {w:Wear} (hw:Fits w) {fuel:Nat} (hf:1000≤fuel) (known:Int):Wp (zeo fuel w known) (SoundV w known):=by
 unfold zeo
 by_cases V:¬ WearOk w
 · exact zau (zki hw V _) (zcs (by simp [-List.getD_eq_getElem?_getD]) (zat ⟨fun _=>rfl,fun k=>absurd k V,fun k=>absurd k V⟩))
 have V:=Classical.not_not.1 V
 by_cases hn:zaP known
 · refine zau (zhG V (zoG hn)) (zaL (by simp [-List.getD_eq_getElem?_getD]) (wp_bind (zkT V hf (zfL V).1 (zfL V).2 known) (fun c hc=>wp_bind (ziq hc) (fun b hb=>zat ⟨fun k=>absurd V k,fun _ k=>absurd hn k,fun _ _=>⟨rfl,hb⟩⟩))))
 · refine zau (zif V (zoF hn)) (zcs (by simp [-List.getD_eq_getElem?_getD]) (zat ⟨fun k=>absurd V k,fun _ _=>rfl,fun _ k=>absurd k hn⟩))
def without (l:List Look) (i:Nat):List Look:=l.take i++l.drop (i+1)
open Classical in
noncomputable def clashF (w:Wear) (known:Int):Nat→List Look→List Look
 | 0,l=>l
 | n+1,l=>if zcF w known (sights w known (without l n)) then clashF w known n l else clashF w known n (without l n)
structure ClashV (w:Wear) (known:Int) (r:List Int×Int):Prop where
 inv:¬ WearOk w→r=([],64)
 day:WearOk w→¬ zaP known→r=([],6)
 none:WearOk w→zaP known→zcF w known (allS w known)→r=([],3)
 ok:WearOk w→zaP known→¬ zcF w known (allS w known)→r=((clashF w known (zpF w known).length (zpF w known)).map (·.Source),0)
end Go.Sp
end
/- Plain laws, mantle: CheckClash by both; MantleLives. No program in sight. -/
section
set_option linter.all false
namespace Go.Sp
open Go.Av
set_option maxRecDepth 100000
structure Picks (w:Wear) (known:Int) (q:List Int) (n:Nat) (s:List Look):Prop where
 len:s.length=n
 mem:∀ j,j<n→lk s j∈zpF w known∧(lk s j).Source=q.getD j default
 ris:∀ j,0<j→j<n→q.getD (j - 1) default<q.getD j default
theorem Picks.all {w:Wear} {known:Int} {q:List Int} {n:Nat} {s:List Look} (h:Picks w known q n s):∀ l∈s,l∈zpF w known:=fun l hl=>by
 obtain ⟨i,hi,e⟩:=zdv hl
 have:=(h.mem i (by have:=h.len;omega)).1
 unfold lk at this
 rwa [e] at this
def CC (w:Wear) (known:Int) (q:List Int):Prop:=∃ s,Picks w known q q.length s∧¬ zcF w known (sights w known s)∧∀ i,i<s.length→zcF w known (sights w known (without s i))
structure CheckV (w:Wear) (known:Int) (q:List Int) (r:Int):Prop where
 inv:¬ WearOk w→r=64
 day:WearOk w→¬ zaP known→r=6
 yes:WearOk w→zaP known→CC w known q→r=0
 no:WearOk w→zaP known→¬ CC w known q→r=68
end Go.Sp
end
/- Plain laws, mantle: slices.Compact; a wear without a source; Moved by both; MantleMoves. No program in sight. -/
section
set_option linter.all false
namespace Go.Sp
open Go.Av
set_option maxRecDepth 100000
theorem ltGet {l:List Int} (h:l.Pairwise (· < ·)) {i j:Nat} (hij:i<j) (hj:j<l.length):l.getD i default<l.getD j default:=zjk (f:=fun x:Int=>x) h hij hj
def zqW (w:Wear) (src:Int):Wear:=⟨w.Batches,w.Mantles.filter (fun m=>!decide (m.Source=src)),w.Burns.filter (fun b=>!decide (b.Source=src)),w.Looks.filter (fun l=>!decide (l.Source=src))⟩
def total (w:Wear):Nat:=w.Mantles.length+w.Burns.length+w.Looks.length
end Go.Sp
end
/- Plain laws, mantle: Moved by both; MantleMoves. No program in sight. -/
section
set_option linter.all false
namespace Go.Sp
open Go.Av
set_option maxRecDepth 100000
def Moves (w:Wear) (src night known:Int) (lamp:Int):Prop:=stateV w lamp night known≠stateV (zqW w src) lamp night known
structure MovedV (w:Wear) (src night known:Int) (r:List Int×Int):Prop where
 inv:¬ WearOk w→r=([],64)
 day:WearOk w→¬ (zaP night∧zaP known)→r=([],6)
 none:WearOk w→zaP night∧zaP known→¬ total (zqW w src)<total w→r=([],3)
 ok:WearOk w→zaP night∧zaP known→total (zqW w src)<total w→r.2=0∧r.1.Pairwise (· < ·)∧(∀ x,x∈r.1↔(∃ j,j<w.Mantles.length∧(mt w j).Lamp=x)∧Moves w src night known x)∧r.1.length≤60
end Go.Sp
end
/- Plain laws, mantle: the wears that numbers determine. No program in sight. -/
section
set_option linter.all false
namespace Go.Sp
open Go.Av
set_option maxRecDepth 100000
theorem zdP {n m:Int} (hm:0<m∧m≤1000000):Wp (zax n m) (fun r=>0≤r∧r<m):=by
 unfold zax
 have h1:=Int.tmod_lt_of_pos n hm.1
 have h2 : -m<Int.tmod n m:=by
  have:=Int.tmod_lt_of_pos (-n) hm.1
  rw [Int.neg_tmod] at this
  omega
 refine zaq (by omega) (zai (by omega) (zaq (by omega) (zat ⟨Int.tmod_nonneg _ (by omega),Int.tmod_lt_of_pos _ hm.1⟩)))
theorem zoB {l:List Int} {i:Int} (hi:0≤i):Wp (zbR l i) (fun _=>True):=by
 unfold zbR
 refine zbI (fun _=>zat trivial) (fun h=>?_)
 have h0:(0:Int)<(l.length:Int):=by omega
 exact zaq (by omega) (zaq ⟨Int.tmod_nonneg _ hi,Int.tmod_lt_of_pos _ h0⟩ (zat trivial))
structure TrueT (w:Wear) (t:Lives):Prop where
 nl:t.Lives.length=w.Batches.length
 lives:∀ i,i<w.Batches.length→inR (ba w i).Life (t.Lives.getD i default)
 nm:t.Minutes.length=w.Burns.length
 mins:∀ i,i<w.Burns.length→(bn w i).Minutes.Lo≤t.Minutes.getD i default∧t.Minutes.getD i default≤(bn w i).Minutes.Hi
structure MadeV (w:Wear) (t:Lives):Prop where
 ok:WearOk w
 tr:TrueT w t
 looks:w.Looks.length≤6
 src:∀ l∈w.Looks,l.Source≤60
theorem zhO {T:Type} [Inhabited T] {ok:T→Prop} {num:T→Int} {l:List T} (h:zfY ok num l) {x:T} (hx:ok x) (hn:∀ y∈l,num y<num x):zfY ok num (l++[x]):=by
 intro i hi
 simp only [List.length_append,List.length_cons,List.length_nil] at hi
 rw [zcj,zcj]
 by_cases e:i=l.length
 · rw [if_pos e]
   refine ⟨hx,fun h0=>?_⟩
   rw [if_neg (by omega)]
   exact hn _ (zbq (by omega))
 · rw [if_neg e]
   refine ⟨(h i (by omega)).1,fun h0=>?_⟩
   rw [if_neg (by omega)]
   exact (h i (by omega)).2 h0
theorem zjb {T:Type} [Inhabited T] {ok:T→Prop} {num:T→Int}:zfY ok num ([]:List T):=fun i hi=>absurd hi (Nat.not_lt_zero _)
theorem zqT {fuel:Nat} (hf:1000≤fuel) (r:gasolierref06_Raw) (q:List Int):Wp (zck fuel r q) (fun z=>MadeV z.1 z.2):=by
 unfold zck
 refine zj6 2 (by omega) (fun i s=>s.1.length=i∧s.2.length=i∧zfY BatchOk (·.Id) s.1∧(∀ j,j<i→(s.1.getD j default).Id=(j:Int)+1)∧∀ j,j<i→inR (s.1.getD j default).Life (s.2.getD j default)) ⟨rfl,rfl,zjb,fun j hj=>absurd hj (Nat.not_lt_zero _),fun j hj=>absurd hj (Nat.not_lt_zero _)⟩ (fun i s K hi hI hK=>?_)
 obtain ⟨bs,ls⟩:=s
 obtain ⟨b1,b2,b3,b4,b5⟩:=hI
 simp only at b1 b2 b3 b4 b5 ⊢
 refine zcx (fun hb=>?_) (fun hb=>?_)
 · have hi2:i<2:=by
    simp only [Bool.or_eq_true,Bool.and_eq_true,decide_eq_true_eq] at hb
    omega
   refine ze9 (fun _=>True) (fun K2 hK2=>?_) (fun s3 _=>?_)
   · exact zbI (fun h=>zaq (by omega) (hK2 _ trivial)) (fun h=>hK2 _ trivial)
   refine wp_bind (zdP (by omega)) (fun lo hlo=>zai (by omega) (wp_bind (zdP (by omega)) (fun d hd=>zai (by omega) ?_)))
   refine zbO (by simp [-List.getD_eq_getElem?_getD];omega) (wp_bind (zoB (by omega)) (fun p _=>zai (by omega) (zai (by omega) (wp_bind (zdP (by omega)) (fun v hv=>zai (by omega) (zbO (by simp [-List.getD_eq_getElem?_getD];omega) (zai (by omega) (hK _ hi2 ?_))))))))
   refine ⟨by simp [-List.getD_eq_getElem?_getD,b1],by simp [-List.getD_eq_getElem?_getD,b2],zhO b3 ⟨by simp only;omega,by simp only;omega⟩ (fun y hy=>?_),fun j hj=>?_,fun j hj=>?_⟩
   · obtain ⟨j,hj,e⟩:=zdv hy
     have:=b4 j (by omega)
     rw [e] at this
     simp only;omega
   · rw [zcj]
     by_cases e:j=bs.length
     · rw [if_pos e];simp only;omega
     · rw [if_neg e];exact b4 j (by omega)
   · rw [zcj,zcj]
     by_cases e:j=bs.length
     · rw [if_pos e,if_pos (by omega)];unfold inR;simp only;omega
     · rw [if_neg e,if_neg (by omega)];exact b5 j (by omega)
 have hi1:1≤i:=by
  simp only [Bool.or_eq_false_iff,decide_eq_false_iff_not] at hb
  omega
 refine zj6 7 (by omega) (fun j s=>s.length=j∧zfY MantleOk (·.Source) s∧(∀ k,k<j→(s.getD k default).Source=(k:Int)+1)∧∀ k,k<j→∃ q,q<bs.length∧(bs.getD q default).Id=(s.getD k default).Batch) ⟨rfl,zjb,fun j hj=>absurd hj (Nat.not_lt_zero _),fun j hj=>absurd hj (Nat.not_lt_zero _)⟩ (fun j ms K2 hj hI2 hK2=>?_)
 obtain ⟨m1,m2,m3,m4⟩:=hI2
 refine zcx (fun hb=>?_) (fun _=>?_)
 · simp only [Bool.and_eq_true,decide_eq_true_eq] at hb
   refine zaq (by simp only;omega) (zai (by simp only;omega) (wp_bind (zdP (by omega)) (fun a ha=>zai (by omega) (wp_bind (zdP (by omega)) (fun b hb2=>zai (by omega) (wp_bind (zdP (by omega)) (fun c hc=>wp_bind (zdP (by omega)) (fun d hd=>?_))))))))
   refine zbO (by simp [-List.getD_eq_getElem?_getD];omega) (zai (by simp only;omega) (hK2 _ (by omega) ⟨by simp [-List.getD_eq_getElem?_getD,m1],zhO m2 ⟨⟨by simp only;omega,by simp only;omega,by simp only;omega,by simp only;omega,.inl rfl⟩,by simp only;omega⟩ (fun y hy=>?_),fun k hk=>?_,fun k hk=>?_⟩))
   · obtain ⟨k,hk,e⟩:=zdv hy
     have:=m3 k (by omega)
     rw [e] at this
     simp only;omega
   · rw [zcj]
     by_cases e:k=ms.length
     · rw [if_pos e];simp only;omega
     · rw [if_neg e];exact m3 k (by omega)
   · rw [zcj]
     by_cases e:k=ms.length
     · rw [if_pos e]
       refine ⟨b.toNat,by omega,?_⟩
       have:=b4 b.toNat (by omega)
       simp only;omega
     · rw [if_neg e];exact m4 k (by omega)
 refine zj6 14 (by omega) (fun j s=>s.1.length=j∧s.2.length=j∧zfY BurnOk (·.Source) s.1∧(∀ k,k<j→(s.1.getD k default).Source=(k:Int)+20)∧∀ k,k<j→(s.1.getD k default).Minutes.Lo≤s.2.getD k default∧s.2.getD k default≤(s.1.getD k default).Minutes.Hi) ⟨rfl,rfl,zjb,fun j hj=>absurd hj (Nat.not_lt_zero _),fun j hj=>absurd hj (Nat.not_lt_zero _)⟩ (fun j3 s K3 hj3 hI3 hK3=>?_)
 obtain ⟨us,ts⟩:=s
 obtain ⟨u1,u2,u3,u4,u5⟩:=hI3
 simp only at u1 u2 u3 u4 u5 ⊢
 refine zcx (fun hb=>?_) (fun _=>?_)
 · simp only [Bool.and_eq_true,decide_eq_true_eq] at hb
   refine zaq (by omega) (wp_bind (zdP (by omega)) (fun lo hlo=>zai (by omega) (wp_bind (zdP (by omega)) (fun a ha=>zai (by omega) (wp_bind (zdP (by omega)) (fun n hn=>wp_bind (zdP (by omega)) (fun d hd=>zai (by omega) (wp_bind (zdP (by omega)) (fun k hk=>?_)))))))))
   refine zbO (by simp [-List.getD_eq_getElem?_getD];omega) (zai (by omega) (wp_bind (zoB (by omega)) (fun p _=>zai (by omega) (zai (by omega) (wp_bind (zdP (by omega)) (fun v hv=>zai (by omega) (zbO (by simp [-List.getD_eq_getElem?_getD];omega) (zai (by omega) (hK3 _ (by omega) ?_)))))))))
   refine ⟨by simp [-List.getD_eq_getElem?_getD,u1],by simp [-List.getD_eq_getElem?_getD,u2],zhO u3 ⟨⟨by simp only;omega,by simp only;omega,by simp only;omega,by simp only;omega,.inl rfl⟩,by simp only;omega⟩ (fun y hy=>?_),fun j hj=>?_,fun j hj=>?_⟩
   · obtain ⟨k2,hk2,e⟩:=zdv hy
     have:=u4 k2 (by omega)
     rw [e] at this
     simp only;omega
   · rw [zcj]
     by_cases e:j=us.length
     · rw [if_pos e];simp only;omega
     · rw [if_neg e];exact u4 j (by omega)
   · rw [zcj,zcj]
     by_cases e:j=us.length
     · rw [if_pos e,if_pos (by omega)];simp only;omega
     · rw [if_neg e,if_neg (by omega)];exact u5 j (by omega)
 refine zj6 6 (by omega) (fun j s=>s.length=j∧zfY zky (·.Source) s∧∀ k,k<j→(s.getD k default).Source=(k:Int)+50) ⟨rfl,zjb,fun j hj=>absurd hj (Nat.not_lt_zero _)⟩ (fun j4 xs K4 hj4 hI4 hK4=>?_)
 obtain ⟨x1,x2,x3⟩:=hI4
 refine zcx (fun hb=>?_) (fun _=>zat ?_)
 · simp only [Bool.and_eq_true,decide_eq_true_eq] at hb
   refine zaq (by simp only;omega) (zai (by simp only;omega) (wp_bind (zdP (by omega)) (fun a ha=>zai (by omega) (wp_bind (zdP (by omega)) (fun n hn=>wp_bind (zdP (by omega)) (fun d hd=>wp_bind (zdP (by omega)) (fun k hk=>?_)))))))
   refine zbO (by simp [-List.getD_eq_getElem?_getD];omega) (zai (by simp only;omega) (hK4 _ (by omega) ⟨by simp [-List.getD_eq_getElem?_getD,x1],zhO x2 ⟨by simp only;omega,by simp only;omega,by simp only;omega,by simp only;omega,.inl rfl⟩ (fun y hy=>?_),fun k hk=>?_⟩))
   · obtain ⟨k2,hk2,e⟩:=zdv hy
     have:=x3 k2 (by omega)
     rw [e] at this
     simp only;omega
   · rw [zcj]
     by_cases e:k=xs.length
     · rw [if_pos e];simp only;omega
     · rw [if_neg e];exact x3 k (by omega)
 · refine ⟨⟨by simp only;omega,by simp only;omega,by simp only;omega,by simp only;omega,b3,m2,u3,x2,fun k hk=>m4 k (by simp only at hk;omega)⟩,⟨by simp only;omega,fun k hk=>b5 k (by simp only at hk;omega),by simp only;omega,fun k hk=>u5 k (by simp only at hk;omega)⟩,by simp only;omega,fun l hl=>?_⟩
   obtain ⟨k,hk,e⟩:=zdv (l:=xs) hl
   have:=x3 k (by omega)
   rw [e] at this
   omega
end Go.Sp
end
/- Plain laws, mantle: looks that are right by lives and minutes. No program in sight. -/
section
set_option linter.all false
namespace Go.Sp
open Go.Av
set_option maxRecDepth 100000
def zg9 (w:Wear) (l:List Look):Wear:=⟨w.Batches,w.Mantles,w.Burns,l⟩
theorem zo7 (w:Wear) (l:List Look) (lamp night known:Int):fit (zg9 w l) lamp night known=fit w lamp night known:=by
 have go:∀ n,fitN (zg9 w l) lamp night known n=fitN w lamp night known n:=by
  intro n
  induction n with
  | zero=>rfl
  | succ n ih=>unfold fitN;rw [ih];rfl
 exact go _
theorem zqH (w:Wear) (l:List Look) (known:Int) (i:Nat):tell (zg9 w l) known i=tell w known i:=by
 unfold tell
 rw [zo7]
 rfl
theorem zp5 (w:Wear) (l:List Look) (known m f t:Int) (i:Nat):zeW (zg9 w l) known m f t i=zeW w known m f t i:=by
 unfold zeW
 rw [zo7,zqH]
 rfl
theorem zpE {w:Wear} {t:Lives} (h:TrueT w t) (l:List Look):TrueT (zg9 w l) t:=⟨h.nl,h.lives,h.nm,h.mins⟩
def tAge (w:Wear) (known:Int) (t:Lives) (m f n:Int):Int:=zaR (zeW w known m f n) (fun i=>t.Minutes.getD i default) w.Burns.length
theorem zqI {w:Wear} {t:Lives} (h:TrueT w t) (known m f n:Int):zgG w known m f n≤tAge w known t m f n:=zcU (fun i hi _=>(h.mins i hi).1)
theorem zkE {w:Wear} {t:Lives} (h:TrueT w t) (known m f n:Int):tAge w known t m f n≤zeV w known m f n:=zcU (fun i hi _=>(h.mins i hi).2)
theorem tMin {w:Wear} (V:WearOk w) {t:Lives} (h:TrueT w t) {i:Nat} (hi:i<w.Burns.length):0≤t.Minutes.getD i default∧t.Minutes.getD i default≤1440:=by
 have h1:=h.mins i hi
 have h2:=(zjT V hi).min
 omega
theorem zji {w:Wear} (V:WearOk w) {t:Lives} (h:TrueT w t) {known m f n n':Int} (hn:n≤n'):tAge w known t m f n≤tAge w known t m f n':=by
 refine zf9 (fun i hi=>(tMin V h hi).1) (fun i hi hp=>?_)
 simp only [zeW,Bool.and_eq_true,decide_eq_true_eq] at hp ⊢
 exact ⟨hp.1,hp.2.1,by omega⟩
theorem zka {w:Wear} {t:Lives} {known m a b c:Int} (h1:a≤b) (h2:b≤c):tAge w known t m a c=tAge w known t m a b+tAge w known t m b c:=by
 refine zkb (fun i hi=>?_) (fun i hi h=>?_)
 · rw [Bool.eq_iff_iff]
   simp only [zeW,Bool.or_eq_true,Bool.and_eq_true,decide_eq_true_eq]
   constructor
   · rintro ⟨h3,h4,h5⟩
     rcases Int.lt_or_le b (bn w i).Night with h|h
     · exact .inr ⟨h3,h,h5⟩
     · exact .inl ⟨h3,h4,h⟩
   · rintro (⟨h3,h4,h5⟩|⟨h3,h4,h5⟩)
     · exact ⟨h3,h4,by omega⟩
     · exact ⟨h3,by omega,h5⟩
 · simp only [zeW,Bool.and_eq_true,decide_eq_true_eq] at h
   omega
def tBad (w:Wear) (known:Int) (t:Lives) (m:Nat) (night:Int):Bool:=decide (t.Lives.getD (bat w m).toNat default<tAge w known t (m:Int) (-1) night)
def zlj (w:Wear) (known:Int) (t:Lives) (lamp night:Int):Bool:=if fit w lamp night known<0 then false else tBad w known t (fit w lamp night known).toNat night
theorem zjq {w:Wear} (V:WearOk w) {t:Lives} (h:TrueT w t) {known:Int} {m:Nat} (hm:m<w.Mantles.length) {S:List mantle_sight} (hS:∀ s∈S,s.bad=tBad w known t m s.night):OkBy w known m S (t.Lives.getD (bat w m).toNat default):=by
 have hb:=zfz V hm
 have hg:∀ s∈S,s.bad=false→tAge w known t m (-1) s.night≤t.Lives.getD (bat w m).toNat default:=fun s hs e=>by
  have:=hS s hs
  rw [e] at this
  have:=of_decide_eq_false this.symm
  omega
 have hbd:∀ s∈S,s.bad=true→t.Lives.getD (bat w m).toNat default<tAge w known t m (-1) s.night:=fun s hs e=>by
  have:=hS s hs
  rw [e] at this
  exact of_decide_eq_true this.symm
 refine ⟨zmD V (q:=(bat w m).toNat) (by omega) (h.lives _ (by omega)),fun s hs e=>?_,fun s hs e=>?_,fun s hs u hu e e2=>?_⟩
 · exact Int.le_trans (zqI h known m (-1) s.night) (hg s hs e)
 · exact Int.lt_of_lt_of_le (hbd s hs e) (zkE h known m (-1) s.night)
 · have h1:=hg s hs e
   have h2:=hbd u hu e2
   have hlt:s.night<u.night:=by
    rcases Int.lt_or_le s.night u.night with h3|h3
    · exact h3
    · have:=zji V h (known:=known) (m:=(m:Int)) (f:=-1) h3;omega
   refine ⟨hlt,?_⟩
   by_cases h0 : -1≤s.night
   · have:=zka (w:=w) (t:=t) (known:=known) (m:=(m:Int)) h0 (Int.le_of_lt hlt)
     have:=zkE h known m s.night u.night
     omega
   · have h3:=zkE h known m (-1) u.night
     have h4:=zfA V (known:=known) (m:=(m:Int)) (f:=-1) (f':=s.night) (Int.le_refl u.night) (by omega)
     have h5:0≤t.Lives.getD (bat w m).toNat default:=(zmD V (q:=(bat w m).toNat) (by omega) (h.lives _ (by omega))).1
     omega
def zjW (w:Wear) (known:Int) (t:Lives) (L:List Look):Prop:=∀ l∈L,l.Bad=zlj w known t l.Lamp l.Night
theorem ziG {w:Wear} {known:Int} {t:Lives} {L:List Look} (h:zjW w known t L) {m:Nat}:∀ s∈sights w known L m,s.bad=tBad w known t m s.night:=fun s hs=>by
 obtain ⟨i,hi,h1,h2,h3⟩:=zeK.1 hs
 have:=h _ (zbq hi)
 unfold lk at *
 rw [h3]
 simp only
 rw [this]
 unfold zlj
 rw [h1,if_neg (by omega),Int.toNat_natCast]
theorem zkd {w:Wear} (V:WearOk w) {t:Lives} (h:TrueT w t) {known:Int} {L:List Look} (hL:zjW w known t L):∀ b,b<w.Batches.length→ze8 w known (sights w known L) b (t.Lives.getD b default):=fun b hb=>by
 refine ⟨h.lives b hb,fun i hi hbi=>?_⟩
 have:=zjq V h hi (ziG hL (m:=i))
 rw [hbi,Int.toNat_natCast] at this
 exact this
theorem zlt {w:Wear} (V:WearOk w) {t:Lives} (h:TrueT w t) {known:Int} {L:List Look} (hL:zjW w known t L):zcF w known (sights w known L):=fun b hb=>⟨_,zkd V h hL b hb⟩
theorem znM {P:Nat→Bool} {f:Nat→Int} {n:Nat} (h:P n=true):zaR P f n+f n=zaR P f (n+1):=by
 show _=zaR P f n+(if P n=true then f n else 0)
 rw [if_pos h]
theorem zon {P:Nat→Bool} {f:Nat→Int} {n:Nat} (h:P n=false):zaR P f n=zaR P f (n+1):=by
 show _=zaR P f n+(if P n=true then f n else 0)
 rw [if_neg (by rw [h];decide),Int.add_zero]
theorem zp3 {w:Wear} (V:WearOk w) {t:Lives} (h:TrueT w t) {fuel:Nat} (hf:1000≤fuel) (lamp night known:Int):zb8 fuel w t ⟨lamp,night,known⟩=some (zlj w known t lamp night):=by
 have nm:=V.nm;have nu:=V.nu;have nb:=V.nb
 unfold zb8
 refine Wp.eq (zau (at_eq (by omega) nm _ _ _) (zau (znL V (by omega) known) ?_))
 have hP:∀ M:Mantle,∀ n:Nat,n≤w.Burns.length→0≤zaR (fun i=>tell w known i && decide ((bn w i).Lamp=lamp) && zaF (bn w i).Night M.Night night) (fun i=>t.Minutes.getD i default) n∧zaR (fun i=>tell w known i && decide ((bn w i).Lamp=lamp) && zaF (bn w i).Night M.Night night) (fun i=>t.Minutes.getD i default) n≤86400:=fun M n hn=>by
  have:=zeh (P:=fun i=>tell w known i && decide ((bn w i).Lamp=lamp) && zaF (bn w i).Night M.Night night) (f:=fun i=>t.Minutes.getD i default) (c:=1440) (by decide) (n:=n) (fun i hi=>tMin V h (by omega))
  omega
 generalize hM:atR w lamp night known=z
 obtain ⟨M,ok⟩:=z
 simp only
 refine zqF w.Burns.length (by omega) (fun i s=>s=zaR (fun i=>tell w known i && decide ((bn w i).Lamp=lamp) && zaF (bn w i).Night M.Night night) (fun i=>t.Minutes.getD i default) i) rfl (fun i s K hi hI hK=>?_)
 subst hI
 by_cases hin:i<w.Burns.length
 · have h60:=hP M i (by omega)
   have hmin:=tMin V h hin
   refine zcs (by simp [-List.getD_eq_getElem?_getD];omega) (zaq (by simp only;omega) (zaq (by simp [-List.getD_eq_getElem?_getD];omega) ?_))
   simp only [Int.toNat_natCast]
   have e:((List.range w.Burns.length).map (tell w known)).getD i default=tell w known i:=by
    rw [List.getD_eq_getElem?_getD,List.getElem?_map,List.getElem?_range hin];rfl
   rw [e]
   refine zcx (fun hb=>zaq (by rw [h.nm];omega) (zai (by omega) (zai (by omega) (hK _ hin ?_)))) (fun hb=>zai (by omega) (hK _ hin ?_))
   · exact znM (P:=fun i=>tell w known i && decide ((bn w i).Lamp=lamp) && zaF (bn w i).Night M.Night night) (f:=fun i=>t.Minutes.getD i default) hb
   · exact zon (P:=fun i=>tell w known i && decide ((bn w i).Lamp=lamp) && zaF (bn w i).Night M.Night night) (f:=fun i=>t.Minutes.getD i default) hb
 have ei:i=w.Burns.length:=by omega
 subst ei
 refine zaL (by simp [-List.getD_eq_getElem?_getD]) ?_
 unfold atR at hM
 unfold zlj
 by_cases hfit:fit w lamp night known<0
 · rw [if_pos hfit] at hM ⊢
   cases hM
   refine zh6 (n:=w.Batches.length) (by omega) (fun j=>(ba w j).Id≠0) (fun j K2 hj _ hK2=>?_) (fun _ K2=>zaL (by simp [-List.getD_eq_getElem?_getD]) (zat rfl))
   refine zcs (by simp [-List.getD_eq_getElem?_getD];omega) (zaq (by omega) ?_)
   refine zbI (fun _=>zaq (fun k=>(by cases k)) (zat (by simp [-List.getD_eq_getElem?_getD]))) (fun hne=>zai (by omega) (hK2 (by simpa [-List.getD_eq_getElem?_getD,ba,zpk] using hne)))
 · rw [if_neg hfit] at hM ⊢
   cases hM
   obtain ⟨m,hm⟩:∃ m:Nat,fit w lamp night known=(m:Int):=⟨_,(Int.toNat_of_nonneg (by omega)).symm⟩
   have hfi:=zqA hm
   rw [hm,Int.toNat_natCast]
   have hbt:=zfz V hfi.lt
   have hsum:zaR (fun i=>tell w known i && decide ((bn w i).Lamp=lamp) && zaF (bn w i).Night (mt w m).Night night) (fun i=>t.Minutes.getD i default) w.Burns.length=tAge w known t m (-1) night:=by
    refine zeg (fun i hi=>?_)
    rw [← zp6 V hfi hi]
    unfold zo0
    rw [hfi.cand.1]
   rw [hsum]
   refine zh6 (n:=w.Batches.length) (by omega) (fun j=>(ba w j).Id≠(mt w m).Batch) (fun j K2 hj _ hK2=>?_) (fun hall K2=>?_)
   · refine zcs (by simp [-List.getD_eq_getElem?_getD];omega) (zaq (by omega) ?_)
     simp only [Int.toNat_natCast]
     refine zbI (fun he=>zaq (fun _=>by rw [h.nl];omega) (zat ?_)) (fun hne=>zai (by omega) (hK2 hne))
     have ej:bat w m=(j:Int):=(zq6 V hfi.lt hj).2 he.symm
     have e5:tBad w known t m night=decide (t.Lives.getD j default<tAge w known t m (-1) night):=by
      unfold tBad
      rw [ej,Int.toNat_natCast]
     rw [e5]
     exact Bool.true_and _
   · obtain ⟨j,hj,e⟩:=V.has m hfi.lt
     exact absurd e (hall j hj)
def ze1 (w:Wear) (known:Int) (t:Lives) (l:List Look):List Look:=l.map (fun l=>⟨l.Source,l.Lamp,l.Night,zlj w known t l.Lamp l.Night,l.Known,l.Until⟩)
def ziJ (w:Wear) (known:Int) (t:Lives):Wear:=zg9 w (ze1 w known t w.Looks)
theorem zde (w:Wear) (known:Int) (t:Lives) (l:List Look):(ze1 w known t l).length=l.length:=by simp [-List.getD_eq_getElem?_getD,ze1]
theorem zib {w:Wear} {known:Int} {t:Lives} {l:List Look} {i:Nat} (hi:i<l.length):(ze1 w known t l).getD i default=⟨(lk l i).Source,(lk l i).Lamp,(lk l i).Night,zlj w known t (lk l i).Lamp (lk l i).Night,(lk l i).Known,(lk l i).Until⟩:=by
 unfold ze1 lk
 rw [List.getD_eq_getElem?_getD,List.getElem?_map,List.getElem?_eq_getElem hi,List.getD_eq_getElem?_getD,List.getElem?_eq_getElem hi];rfl
theorem zov {w:Wear} (V:WearOk w) (known:Int) (t:Lives):WearOk (ziJ w known t):=by
 refine ⟨V.nb,V.nm,V.nu,by show (ze1 w known t w.Looks).length≤60;rw [zde];exact V.nl,V.ba,V.ma,V.bu,fun i hi=>?_,V.has⟩
 have hi':i<w.Looks.length:=by
  have:(ziJ w known t).Looks.length=w.Looks.length:=zde w known t w.Looks
  omega
 have h1:=V.lo i hi'
 show zky ((ze1 w known t w.Looks).getD i default)∧(0<i→((ze1 w known t w.Looks).getD (i - 1) default).Source<((ze1 w known t w.Looks).getD i default).Source)
 rw [zib hi']
 refine ⟨h1.1,fun h0=>?_⟩
 rw [zib (by omega)]
 exact h1.2 h0
theorem zqp (w:Wear) (l:List Look) (known:Int) (t:Lives) (lamp night:Int):zlj (zg9 w l) known t lamp night=zlj w known t lamp night:=by
 unfold zlj tBad
 rw [zo7]
 have:∀ m n:Int,tAge (zg9 w l) known t m (-1) n=tAge w known t m (-1) n:=fun m n=>zeg (fun i _=>zp5 w l known m (-1) n i)
 rw [this]
 rfl
theorem zlz (w:Wear) (known:Int) (t:Lives):zjW (ziJ w known t) known t (ziJ w known t).Looks:=fun l hl=>by
 have hl':l∈ze1 w known t w.Looks:=hl
 unfold ziJ
 rw [zqp]
 unfold ze1 at hl'
 rw [List.mem_map] at hl'
 obtain ⟨l0,_,rfl⟩:=hl'
 rfl
theorem zpP {w:Wear} (V:WearOk w) {t:Lives} (h:TrueT w t) {fuel:Nat} (hf:1000≤fuel) (known:Int):zb9 fuel w t known=some (ziJ w known t):=by
 have nm:=V.nm;have nu:=V.nu;have nb:=V.nb;have nl:=V.nl
 unfold zb9 zbS
 refine Wp.eq (wp_bind (Q:=fun y=>y=w) (zbO (by simp [-List.getD_eq_getElem?_getD];omega) (zbO (by simp [-List.getD_eq_getElem?_getD];omega) (zbO (by simp [-List.getD_eq_getElem?_getD];omega) (zbO (by simp [-List.getD_eq_getElem?_getD];omega) (zat (by simp [-List.getD_eq_getElem?_getD])))))) (fun y hy=>?_))
 subst hy
 refine zj6 y.Looks.length (by omega) (fun i s=>s=(ze1 y known t y.Looks).take i++y.Looks.drop i) (by simp [-List.getD_eq_getElem?_getD]) (fun i s K hi hI hK=>?_)
 have hlen:s.length=y.Looks.length:=by rw [hI,List.length_append,List.length_take,List.length_drop,zde];omega
 by_cases hin:i<y.Looks.length
 · refine zcs (by simp only;rw [decide_eq_true_eq,hlen];omega) (zaq (by simp only;omega) ?_)
   simp only [Int.toNat_natCast]
   have hg:s.getD i default=y.Looks.getD i default:=by
    rw [hI,zeO,List.length_take,zde,if_neg (by omega),getD_drop]
    congr 1;omega
   rw [hg]
   refine zau (zp3 V h hf _ _ _) (zaq (by omega) (zai (by omega) (hK _ hin ?_)))
   rw [zbU (by rw [zde];exact hin),zib hin]
   refine znz (by rw [List.length_set,hlen];simp only [List.length_append,List.length_take,List.length_drop,List.length_cons,List.length_nil,zde];omega) (fun j hj=>?_)
   rw [List.length_set] at hj
   rw [zhL _ _ _ _ _ (by omega),List.append_assoc,zeO,List.length_take,zde]
   by_cases e1:j=i
   · rw [if_pos e1,if_neg (by omega),e1,zeO]
     rw [if_pos (by simp only [List.length_cons,List.length_nil];omega)]
     rw [show i - min i y.Looks.length=0 by omega]
     rfl
   · rw [if_neg e1,hI,zeO,List.length_take,zde]
     by_cases e2:j<min i y.Looks.length
     · rw [if_pos e2,if_pos e2]
     · rw [if_neg e2,if_neg e2,zeO,List.length_cons,List.length_nil,if_neg (by omega),getD_drop,getD_drop]
       congr 1;omega
 · have:i=y.Looks.length:=by omega
   subst this
   refine zaL (by simp only;rw [decide_eq_false_iff_not,hlen];omega) (zat ?_)
   have e1:(ze1 y known t y.Looks).take y.Looks.length=ze1 y known t y.Looks:=List.take_of_length_le (by rw [zde];exact Nat.le_refl _)
   simp only
   rw [hI,e1,List.drop_length,List.append_nil]
   rfl
end Go.Sp
end
/- Plain laws, mantle: from night to night; MantleNights. No program in sight. -/
section
set_option linter.all false
namespace Go.Sp
open Go.Av
set_option maxRecDepth 100000
theorem ze0 {w:Wear} {known:Int} {S:Nat→List mantle_sight} {m:Nat} {night:Int}:(stateR w known S m night=0∧¬ zfl w known S m night true)∨(stateR w known S m night=1∧zfl w known S m night true∧¬ zfl w known S m night false)∨(stateR w known S m night=2∧zfl w known S m night true∧zfl w known S m night false):=by
 by_cases h1:zfl w known S m night true
 · by_cases h2:zfl w known S m night false
   · exact .inr (.inr ⟨zpG h1 h2,h1,h2⟩)
   · exact .inr (.inl ⟨zpH h1 h2,h1,h2⟩)
 · exact .inl ⟨zpI h1,h1⟩
end Go.Sp
end
/- Plain laws, mantle: lots. No program in sight. -/
section
set_option linter.all false
namespace Go.Sp
open Go.Av
set_option maxRecDepth 100000
structure LotOk (w:Wear) (P:List Int) (night known:Int):Prop where
 len:1≤P.length∧P.length≤20
 lamp:∀ i,i<P.length→1≤P.getD i default∧P.getD i default≤999
 ris:∀ i,0<i→i<P.length→P.getD (i - 1) default<P.getD i default
 nOk:zaP night
 kOk:zaP known
 fits:∀ i,i<P.length→0≤fit w (P.getD i default) night known
theorem zp2 {w:Wear} {P:List Int} {night known:Int} (h:LotOk w P night known):zem P=some true:=by
 have hl:=h.len
 unfold zem
 refine Wp.eq (zeH (fun _=>True) (fun i K hi _ hK=>?_) (fun _=>zat ?_))
 · refine zaq (fun _=>by unfold inI;omega) (zaq (fun h=>by simp [-List.getD_eq_getElem?_getD] at h;omega) (zaL ?_ (hK trivial)))
   have e:(((i:Int) - 1)).toNat=i - 1:=by omega
   rw [e]
   have h1:=h.lamp i hi
   have h2:=h.ris i
   have e1:zaJ (P.getD i default)=true:=by
    unfold zaJ zay
    rw [Bool.and_eq_true,decide_eq_true_eq,decide_eq_true_eq];exact h1
   rw [e1]
   simp only [Bool.not_true,Bool.false_or,Bool.and_eq_false_iff,decide_eq_false_iff_not]
   by_cases h0:0<i
   · have:=h2 h0 hi
     exact .inr (by omega)
   · exact .inl (by omega)
 · unfold zay
   rw [Bool.and_eq_true,decide_eq_true_eq,decide_eq_true_eq];omega
def lotM (w:Wear) (P:List Int) (night known:Int):List Int:=P.map (fun l=>fit w l night known)
structure LotV (w:Wear) (P:List Int) (night known:Int) (x:mantle_lot):Prop where
 hung:Hung w known (allS w known) x.closet
 lamps:x.lamps=P
 mantles:x.mantles=lotM w P night known
 night:x.night=night
theorem zi6 {w:Wear} {P:List Int} {night known:Int} {i:Nat} (hi:i<P.length):(lotM w P night known).getD i default=fit w (P.getD i default) night known:=by
 unfold lotM
 rw [List.getD_eq_getElem?_getD,List.getElem?_map,List.getElem?_eq_getElem hi,List.getD_eq_getElem?_getD,List.getElem?_eq_getElem hi];rfl
theorem znn {w:Wear} (V:WearOk w) {fuel:Nat} (hf:1000≤fuel) {P:List Int} {night known many:Int} (h:LotOk w P night known) (hm:0≤many∧many≤20):Wp (zdJ fuel w P night known many) (fun r=>r.2=0∧LotV w P night known r.1):=by
 have hl:=h.len
 unfold zdJ
 refine zau (zhI V) (zaL (by simp [-List.getD_eq_getElem?_getD]) (zaL ?_ (zau (zp2 h) (zaL (by simp [-List.getD_eq_getElem?_getD]) (zaL ?_ ?_)))))
 · unfold zay
   simp only [Bool.not_eq_false',Bool.and_eq_true,decide_eq_true_eq];omega
 · rw [zfM.2 h.nOk,zfM.2 h.kOk];rfl
 refine wp_bind (zkT V hf (zfL V).1 (zfL V).2 known) (fun c hc=>?_)
 refine zco (fun i s=>s=(lotM w P night known).take i) rfl (fun i s K hi hI hK=>?_) (fun s hs=>zat ⟨rfl,hc,rfl,?_,rfl⟩)
 · have hi':i<(lotM w P night known).length:=by unfold lotM;rw [List.length_map];exact hi
   refine zau (zhN w _ _ _) ?_
   have:=h.fits i hi
   refine zbI (fun h2=>by omega) (fun _=>zbO (by rw [hI];simp [-List.getD_eq_getElem?_getD];omega) (hK _ ?_))
   rw [zbU hi',zi6 hi,hI]
 · simp only
   rw [hs]
   exact List.take_of_length_le (by unfold lotM;rw [List.length_map];exact Nat.le_refl _)
theorem zjj {w:Wear} (V:WearOk w) {fuel:Nat} (hf:1000≤fuel) {P:List Int} {night known many:Int} (h:LotOk w P night known) (hm:0≤many∧many≤20) (hs:zcF w known (allS w known)):Wp (zb5 fuel w P night known many) (fun r=>r.2=0∧LotV w P night known r.1):=by
 unfold zb5
 refine wp_bind (znn V hf h hm) (fun y hy=>?_)
 obtain ⟨h1,h2⟩:=hy
 rw [h1]
 obtain ⟨b,e,hb⟩:=ziq h2.hung
 refine zoj (by simp [-List.getD_eq_getElem?_getD]) e ?_
 rw [hb.2 hs]
 exact zaL (by simp [-List.getD_eq_getElem?_getD]) (zat ⟨rfl,h2⟩)
noncomputable def lotLo (w:Wear) (P:List Int) (night known:Int) (n:Nat):Int:=zaR (fun i=>decide (stateR w known (allS w known) (fit w (P.getD i default) night known).toNat night=1)) (fun _=>1) n
noncomputable def lotHi (w:Wear) (P:List Int) (night known:Int) (n:Nat):Int:=zaR (fun i=>!decide (stateR w known (allS w known) (fit w (P.getD i default) night known).toNat night=0)) (fun _=>1) n
theorem zlL (P:Nat→Bool) (n:Nat):0≤zaR P (fun _=>1) n∧zaR P (fun _=>1) n≤(n:Int):=by
 have:=zeh (P:=P) (f:=fun _=>(1:Int)) (c:=1) (by decide) (n:=n) (fun i _=>by decide)
 omega
theorem zoE {w:Wear} (V:WearOk w) {P:List Int} {night known:Int} (h:LotOk w P night known) {x:mantle_lot} (hx:LotV w P night known x):zbn x=some ⟨lotLo w P night known P.length,lotHi w P night known P.length⟩:=by
 have hl:=h.len
 unfold zbn
 have hlen:x.mantles.length=P.length:=by rw [hx.mantles];unfold lotM;rw [List.length_map]
 rw [hx.night,hlen,hx.mantles]
 refine Wp.eq (zco (fun i s=>s=⟨lotLo w P night known i,lotHi w P night known i⟩) rfl (fun i s K hi hI hK=>?_) (fun s hs=>zat hs))
 subst hI
 rw [zi6 hi]
 have h0:=h.fits i hi
 have hlt:=zjE w (P.getD i default) night known
 obtain ⟨m,hm⟩:∃ m:Nat,fit w (P.getD i default) night known=(m:Int):=⟨_,(Int.toNat_of_nonneg h0).symm⟩
 have hmn:(fit w (P.getD i default) night known).toNat=m:=by omega
 rw [hm] at hlt ⊢
 refine zau (zm6 V hx.hung (by omega) h.nOk.1) ?_
 have b1:=zlL (fun i=>decide (stateR w known (allS w known) (fit w (P.getD i default) night known).toNat night=1)) i
 have b2:=zlL (fun i=>!decide (stateR w known (allS w known) (fit w (P.getD i default) night known).toNat night=0)) i
 have bb1:0≤lotLo w P night known i∧lotLo w P night known i≤(i:Int):=b1
 have bb2:0≤lotHi w P night known i∧lotHi w P night known i≤(i:Int):=b2
 have e1:lotLo w P night known (i+1)=lotLo w P night known i+(if decide (stateR w known (allS w known) m night=1)=true then 1 else 0):=by
  rw [← hmn];rfl
 have e2:lotHi w P night known (i+1)=lotHi w P night known i+(if (!decide (stateR w known (allS w known) m night=0))=true then 1 else 0):=by
  rw [← hmn];rfl
 have c:=ze0 (w:=w) (known:=known) (S:=allS w known) (m:=m) (night:=night)
 refine zbI (fun s1=>zai (by simp only;omega) (zai (by simp only;omega) (hK _ ?_))) (fun s1=>zbI (fun s2=>zai (by simp only;omega) (hK _ ?_)) (fun s2=>hK _ ?_))
 · rw [e1,e2,s1];rfl
 · rw [e1,e2,s2];simp [-List.getD_eq_getElem?_getD]
 · have s0:stateR w known (allS w known) m night=0:=by
    rcases c with ⟨s,_⟩|⟨s,_⟩|⟨s,_⟩
    · exact s
    · exact absurd s s1
    · exact absurd s s2
   rw [e1,e2,s0];simp [-List.getD_eq_getElem?_getD]
theorem zqU {w:Wear} (V:WearOk w) {fuel:Nat} (hf:1000≤fuel) {P:List Int} {night known:Int} (h:LotOk w P night known) (hs:zcF w known (allS w known)):zd5 fuel w P night known=some (⟨lotLo w P night known P.length,lotHi w P night known P.length⟩,0):=by
 unfold zd5
 refine Wp.eq (wp_bind (zjj V hf h (by omega) hs) (fun y hy=>?_))
 obtain ⟨h1,h2⟩:=hy
 rw [h1]
 exact zaL (by simp [-List.getD_eq_getElem?_getD]) (zau (zoE V h h2) (zat rfl))
def lot5 (w:Wear) (night known:Int):List Int:=([1,2,3,4,5]:List Int).filter (fun l=>decide (0≤fit w l night known))
theorem zpO {w:Wear} (V:WearOk w) {fuel:Nat} (hf:1000≤fuel) (night known:Int):zcl fuel w night known=some (lot5 w night known):=by
 have nm:=V.nm
 unfold zcl
 refine Wp.eq (wp_loop (fun s=>∃ i:Nat,s.1=(i:Int)+1∧i≤5∧s.2=(([1,2,3,4,5]:List Int).take i).filter (fun l=>decide (0≤fit w l night known))) (fun s=>10 - s.1.toNat) (by simp only;omega) ⟨0,rfl,by omega,rfl⟩ (fun s K hI hK=>?_))
 obtain ⟨x,s⟩:=s
 obtain ⟨i,h1,h2,h3⟩:=hI
 simp only at h1 h3 hK ⊢
 subst h1
 have hl:s.length≤5:=by rw [h3];exact Nat.le_trans (List.length_filter_le _ _) (by rw [List.length_take];simp [-List.getD_eq_getElem?_getD];omega)
 by_cases hi:i<5
 · refine zcs (by simp [-List.getD_eq_getElem?_getD];omega) (zau (at_eq (by omega) nm _ _ _) ?_)
   rw [atR_2]
   have hg:([1,2,3,4,5]:List Int).getD i default=(i:Int)+1:=by
    match i,hi with
    | 0,_=>rfl
    | 1,_=>rfl
    | 2,_=>rfl
    | 3,_=>rfl
    | 4,_=>rfl
   have hts:([1,2,3,4,5]:List Int).take (i+1)=([1,2,3,4,5]:List Int).take i++[(i:Int)+1]:=by
    rw [zbU (by simp [-List.getD_eq_getElem?_getD];omega),hg]
   refine zbI (fun h=>zbO (by simp [-List.getD_eq_getElem?_getD];omega) (zai (by omega) (hK _ ⟨i+1,by simp [-List.getD_eq_getElem?_getD],by omega,?_⟩ (by simp only;omega)))) (fun h=>zai (by omega) (hK _ ⟨i+1,by simp [-List.getD_eq_getElem?_getD],by omega,?_⟩ (by simp only;omega)))
   · simp only
     rw [hts,List.filter_append,h3,List.filter_cons_of_pos (p:=fun l:Int=>decide (0≤fit w l night known)) (decide_eq_true h),List.filter_nil]
   · simp only
     rw [hts,List.filter_append,h3,List.filter_cons_of_neg (p:=fun l:Int=>decide (0≤fit w l night known)) (by rw [decide_eq_true_eq];exact h),List.filter_nil,List.append_nil]
 · have:i=5:=by omega
   subst this
   exact zaL (by simp [-List.getD_eq_getElem?_getD]) (zat h3)
theorem zqV {w:Wear} {night known:Int} (h0:(lot5 w night known).length≠0) (hn:zaP night) (hk:zaP known):LotOk w (lot5 w night known) night known:=by
 have hm:∀ x∈lot5 w night known,(1≤x∧x≤5)∧0≤fit w x night known:=fun x hx=>by
  obtain ⟨h1,h2⟩:=List.mem_filter.1 hx
  refine ⟨?_,of_decide_eq_true h2⟩
  simp only [List.mem_cons,List.not_mem_nil,or_false] at h1
  omega
 have hs:(lot5 w night known).Pairwise (· < ·):=List.Pairwise.sublist List.filter_sublist (by decide)
 have hlen:(lot5 w night known).length≤5:=Nat.le_trans (List.length_filter_le _ _) (by simp [-List.getD_eq_getElem?_getD])
 refine ⟨by omega,fun i hi=>?_,fun i h0 hi=>ltGet hs (by omega) hi,hn,hk,fun i hi=>(hm _ (zbq hi)).2⟩
 have:=(hm _ (zbq hi)).1
 omega
end Go.Sp
end
/- Plain laws, mantle: lives and minutes against the closet: CheckTrue, Worn. No program in sight. -/
section
set_option linter.all false
namespace Go.Sp
open Go.Av
set_option maxRecDepth 100000
theorem zkj {f g:Int→Int}:∀ {l:List Int},(∀ x∈l,f x=g x)→lsum f l=lsum g l
 | [],_=>rfl
 | x::l,h=>by
  unfold lsum
  rw [h x (List.mem_cons_self ..),zkj (fun y hy=>h y (List.mem_cons_of_mem _ hy))]
theorem zkO {w:Wear} {known:Int} {m:Nat} {l:List Int} (hl:l.Perm (zfX w known m w.Burns.length)) (F:Nat→Int) (f t:Int):lsum (fun x=>if f<(bn w x.toNat).Night∧(bn w x.toNat).Night≤t then F x.toNat else 0) l=zaR (zeW w known m f t) F w.Burns.length:=by
 rw [zlK hl]
 unfold zfX
 rw [zii]
 have:(fun i:Nat=>if f<(bn w (i:Int).toNat).Night∧(bn w (i:Int).toNat).Night≤t then F (i:Int).toNat else 0)=fun i:Nat=>if (decide (f<(bn w i).Night) && decide ((bn w i).Night≤t))=true then F i else 0:=by
  funext i
  simp only [Int.toNat_natCast,Bool.and_eq_true,decide_eq_true_eq]
 rw [this,zh8]
 rfl
theorem znH {w:Wear} (V:WearOk w) {i:Nat} (hi:i<w.Burns.length):0≤(bn w i).Night:=(zjT V hi).told.night.1
theorem zqS {w:Wear} (V:WearOk w) {known:Int} {S:Nat→List mantle_sight} {c:mantle_closet} (h:Hung w known S c) {t:Lives} (ht:TrueT w t) {m:Nat} (hm:m<w.Mantles.length) (n:Int):zch c (m:Int) n t=some (tAge w known t m (-1) n):=by
 have nu:=V.nu
 obtain ⟨x,e,hx⟩:=h.coats m hm
 unfold zch
 rw [e,h.wear]
 simp only [Option.getD_some]
 have hlen:x.burns.length≤60:=by have:=hx.burns.length_eq;have:=zh1 w known m w.Burns.length;omega
 have hin:∀ i,i<x.burns.length→0≤x.burns.getD i default∧x.burns.getD i default<(w.Burns.length:Int):=fun i hi=>zfy (hx.burns.mem_iff.1 (zbq hi))
 let g:Int→Int:=fun y=>if -1<(bn w y.toNat).Night∧(bn w y.toNat).Night≤n then t.Minutes.getD y.toNat default else 0
 have hL:∀ i,0≤lsum g (x.burns.take i)∧lsum g (x.burns.take i)≤86400:=fun i=>by
  have:=zij (g:=g) (c:=1440) (by decide) (l:=x.burns.take i) (fun y hy=>by
   have hx':=zfy (hx.burns.mem_iff.1 (List.mem_of_mem_take hy))
   have:=tMin V ht (i:=y.toNat) (by omega)
   simp only [g]
   split <;> omega)
  have h2:(x.burns.take i).length≤60:=by rw [List.length_take];omega
  omega
 refine Wp.eq (zco (fun i s=>s=lsum g (x.burns.take i)) rfl (fun i s K hi hI hK=>?_) (fun s hs=>zat ?_))
 · subst hI
   have a:=hin i hi
   have b1:=hL i
   have b2:=tMin V ht (i:=(x.burns.getD i default).toNat) (by omega)
   have b3:=znH V (i:=(x.burns.getD i default).toNat) (by omega)
   unfold bn at b3
   refine zaq a (zbI (fun hn=>zaq (by rw [ht.nm];exact a) (zai (by omega) (hK _ ?_))) (fun hn=>hK _ ?_))
   · rw [zbU hi,zep]
     simp only [g]
     unfold bn
     rw [if_pos ⟨by omega,hn⟩]
   · rw [zbU hi,zep]
     simp only [g]
     unfold bn
     rw [if_neg (fun k=>hn k.2),Int.add_zero]
 · rw [hs,List.take_length]
   exact zkO hx.burns (fun i=>t.Minutes.getD i default) (-1) n
theorem zlG {w:Wear} (V:WearOk w) {known:Int} {S:Nat→List mantle_sight} {c:mantle_closet} (h:Hung w known S c) {t:Lives} (ht:TrueT w t) {m:Nat} (hm:m<w.Mantles.length) (n:Int):zbs c (m:Int) n t=some (tBad w known t m n):=by
 have hb:=zfz V hm
 unfold zbs
 exact Wp.eq (zau (zqS V h ht hm n) (zau (zlh h hm) (zaq (by rw [ht.nl];exact hb) (zat rfl))))
def ze7 (w:Wear) (known:Int) (t:Lives) (S:Nat→List mantle_sight):Prop:=∀ m:Nat,m<w.Mantles.length→∀ s∈S m,s.bad=tBad w known t m s.night
theorem zow {w:Wear} {known:Int} {t:Lives} {L:List Look} (h:zjW w known t L):ze7 w known t (sights w known L):=fun _ _=>ziG h
theorem zl9 {w:Wear} (V:WearOk w) {t:Lives} (h:TrueT w t) {known:Int} {S:Nat→List mantle_sight} (hS:ze7 w known t S) {m:Nat} (hm:m<w.Mantles.length) (night:Int):zfl w known S m night (tBad w known t m night):=by
 have hb:=zfz V hm
 rw [zma V hm]
 refine ⟨t.Lives.getD (bat w m).toNat default,⟨h.lives _ (by omega),fun i hi hbi=>?_⟩,zjq V h hm (fun s hs=>?_)⟩
 · have:=zjq V h hi (hS i hi)
   rw [hbi,show ((((bat w m).toNat:Nat):Int)).toNat=(bat w m).toNat by omega] at this
   exact this
 · rcases List.mem_append.1 hs with hs|hs
   · exact hS m hm s hs
   · rw [List.mem_singleton] at hs;rw [hs]
theorem zmH {T:Type} [Inhabited T] {p:T→Option Bool} {l:List T} (h:∀ x∈l,p x=some false):(zao (fun i1 (s1:Unit) k1=>zal (p (l.getD i1 default)) fun y3=>(bif y3 then some (i1:Int) else k1 ())) (fun (s1:Unit)=>some (-1)) l.length 0 ())=some (-1):=by
 refine Wp.eq (zeH (fun _=>True) (fun i K hi _ hK=>zau (h _ (zbq hi)) (zaL rfl (hK trivial))) (fun _=>zat rfl))
theorem zlQ {w:Wear} (V:WearOk w) {known:Int} {S:Nat→List mantle_sight} {c:mantle_closet} (h:Hung w known S c) {t:Lives} (ht:TrueT w t) (hS:ze7 w known t S):zbh c t=some true:=by
 have nm:=V.nm
 unfold zbh
 rw [h.wear]
 refine Wp.eq (zaL (by simp [-List.getD_eq_getElem?_getD,ht.nl,ht.nm]) (zeH (fun _=>True) (fun i K hi _ hK=>?_) (fun _=>zeH (fun _=>True) (fun i K hi _ hK=>?_) (fun _=>?_))))
 · refine zaq (by rw [ht.nl];omega) (zaL ?_ (hK trivial))
   have:=ht.lives i hi
   unfold inR ba at this
   rw [Bool.not_eq_false',mwithin,Bool.and_eq_true,decide_eq_true_eq,decide_eq_true_eq];exact this
 · refine zaq (by rw [ht.nm];omega) (zaL ?_ (hK trivial))
   have:=ht.mins i hi
   unfold bn at this
   rw [Bool.not_eq_false',mwithin,Bool.and_eq_true,decide_eq_true_eq,decide_eq_true_eq];exact this
 · refine zau (zmV _ nm) ?_
   refine zml w.Mantles.length _ (fun _ _=>True) trivial (fun j s K hj _ hK=>?_) (fun _ _=>zat rfl)
   obtain ⟨x,e,hx⟩:=h.coats j hj
   simp only
   rw [e,Option.getD_some]
   have e2:zbe x.sights (fun x0=>za0 x0 c (j:Int) t)=some false:=by
    unfold zbe zca
    refine Wp.eq (zau (v:=-1) (zmH (p:=fun x0=>za0 x0 c (j:Int) t) (l:=x.sights) (fun y hy=>?_)) (zat rfl))
    unfold za0
    rw [hx.sights] at hy
    have:=hS j hj y hy
    exact Wp.eq (zau (zlG V h ht hj y.night) (zat (by rw [this];simp [-List.getD_eq_getElem?_getD])))
   exact zau e2 (zaL rfl (hK _ trivial))
theorem ziP {w:Wear} (V:WearOk w) {fuel:Nat} (hf:1000≤fuel) {known:Int} (hk:zaP known) {t:Lives} (ht:TrueT w t) (hS:ze7 w known t (allS w known)):zcd fuel w known t=some 0:=by
 unfold zcd
 refine Wp.eq (zau (zhG V (zoG hk)) (zaL (by simp [-List.getD_eq_getElem?_getD]) (wp_bind (zkT V hf (zfL V).1 (zfL V).2 known) (fun c hc=>?_))))
 exact zau (zlQ V hc ht hS) (zaL rfl (zat rfl))
def zkD (w:Wear) (known:Int) (t:Lives) (P:List Int) (night:Int):List Int:=P.filter (fun l=>tBad w known t (fit w l night known).toNat night)
theorem zhp {T:Type} (p:T→Bool) (l:List T) (x:T):(l++[x]).filter p=if p x=true then l.filter p++[x] else l.filter p:=by
 rw [List.filter_append]
 by_cases h:p x=true
 · rw [if_pos h,List.filter_cons_of_pos h,List.filter_nil]
 · rw [if_neg h,List.filter_cons_of_neg h,List.filter_nil,List.append_nil]
theorem zok {w:Wear} (V:WearOk w) {fuel:Nat} (hf:1000≤fuel) {P:List Int} {night known:Int} (hP:LotOk w P night known) {t:Lives} (ht:TrueT w t) (hS:ze7 w known t (allS w known)):zd4 fuel w t P night known=some (zkD w known t P night,0):=by
 have hl:=hP.len
 unfold zd4
 refine Wp.eq (wp_bind (znn V hf hP (by omega)) (fun y hy=>?_))
 obtain ⟨h1,h2⟩:=hy
 rw [h1]
 refine zaL (by simp [-List.getD_eq_getElem?_getD]) (zau (zlQ V h2.hung ht hS) (zaL rfl ?_))
 have hlen:y.1.mantles.length=P.length:=by rw [h2.mantles];unfold lotM;rw [List.length_map]
 rw [hlen,h2.mantles]
 refine zco (fun i s=>s=(P.take i).filter (fun l=>tBad w known t (fit w l night known).toNat night)) rfl (fun i s K hi hI hK=>?_) (fun s hs=>zat (by rw [hs,List.take_length];rfl))
 subst hI
 rw [zi6 hi]
 have h0:=hP.fits i hi
 have hlt:=zjE w (P.getD i default) night known
 obtain ⟨m,hm⟩:∃ m:Nat,fit w (P.getD i default) night known=(m:Int):=⟨_,(Int.toNat_of_nonneg h0).symm⟩
 rw [hm] at hlt ⊢
 have hfl:((P.take i).filter (fun l=>tBad w known t (fit w l night known).toNat night)).length≤20:=Nat.le_trans (List.length_filter_le _ _) (by rw [List.length_take];omega)
 refine zau (zlG V h2.hung ht (by omega) night) (zcx (fun hb=>zaq (by omega) (zbO (by rw [List.length_append,List.length_cons,List.length_nil];omega) (hK _ ?_))) (fun hb=>hK _ ?_))
 · rw [zbU hi,zhp,hm,Int.toNat_natCast,if_pos hb]
 · rw [zbU hi,zhp,hm,Int.toNat_natCast,if_neg (by rw [hb];decide)]
theorem zlp {w:Wear} {known:Int} {t:Lives} {night:Int}:∀ {P:List Int},((zkD w known t P night).length:Int)=zaR (fun i=>tBad w known t (fit w (P.getD i default) night known).toNat night) (fun _=>1) P.length:=by
 intro P
 have go:∀ n,n≤P.length→(((P.take n).filter (fun l=>tBad w known t (fit w l night known).toNat night)).length:Int)=zaR (fun i=>tBad w known t (fit w (P.getD i default) night known).toNat night) (fun _=>1) n:=by
  intro n
  induction n with
  | zero=>intro _;rfl
  | succ n ih=>
   intro hn
   rw [zbU (by omega),zhp]
   unfold zaR
   rw [← ih (by omega)]
   split
   · rw [List.length_append,List.length_cons,List.length_nil];omega
   · omega
 have:=go P.length (Nat.le_refl _)
 rw [List.take_length] at this
 exact this
end Go.Sp
end
/- Plain laws, mantle: minutes with which a coat's looks are right. No program in sight. -/
section
set_option linter.all false
namespace Go.Sp
open Go.Av
set_option maxRecDepth 100000
def ofM (w:Wear) (known:Int) (m j:Nat):Prop:=tell w known j=true∧fit w (bn w j).Lamp (bn w j).Night known=(m:Int)
theorem zps {w:Wear} {known:Int} {m:Nat} {x:Int}:x∈zfX w known m w.Burns.length↔∃ j:Nat,j<w.Burns.length∧ofM w known m j∧x=(j:Int):=by
 unfold zfX ofM
 rw [List.mem_map]
 constructor
 · rintro ⟨j,hj,e⟩
   obtain ⟨h1,h2⟩:=List.mem_filter.1 hj
   rw [Bool.and_eq_true,decide_eq_true_eq] at h2
   exact ⟨j,List.mem_range.1 h1,h2,e.symm⟩
 · rintro ⟨j,hj,h,e⟩
   exact ⟨j,List.mem_filter.2 ⟨List.mem_range.2 hj,by rw [Bool.and_eq_true,decide_eq_true_eq];exact h⟩,e.symm⟩
theorem zmX (w:Wear) (known m:Int) (n:Nat):(zfX w known m n).Nodup:=by
 unfold zfX
 refine zlE (List.Nodup.sublist List.filter_sublist List.nodup_range) (fun x _ y _ h=>by omega)
theorem zja {w:Wear} {known f t:Int} {m j:Nat} (h:zeW w known (m:Int) f t j=true):ofM w known m j∧f<(bn w j).Night∧(bn w j).Night≤t:=by
 simp only [zeW,Bool.and_eq_true,decide_eq_true_eq] at h
 exact ⟨h.1,h.2⟩
def ageT (w:Wear) (known:Int) (T:List Int) (m f n:Int):Int:=zaR (zeW w known m f n) (fun i=>T.getD i default) w.Burns.length
structure MinOk (w:Wear) (known:Int) (m:Nat) (g b life:Int) (T T':List Int):Prop where
 len:T'.length=T.length
 other:∀ j:Nat,j<w.Burns.length→¬ ofM w known m j→T'.getD j default=T.getD j default
 mins:∀ j:Nat,j<w.Burns.length→ofM w known m j→(bn w j).Minutes.Lo≤T'.getD j default∧T'.getD j default≤(bn w j).Minutes.Hi
 good:g ≠ -1→ageT w known T' m (-1) g≤life
 bad:b ≠ -1→life<ageT w known T' m (-1) b
structure MinAt (w:Wear) (g b room0:Int) (B:List Int) (i:Nat) (T:List Int) (r:Int) (s:List Int):Prop where
 len:s.length=T.length
 other:∀ j:Nat,j<w.Burns.length→(j:Int) ∉ B→s.getD j default=T.getD j default
 rest:∀ j:Nat,j<w.Burns.length→(j:Int)∈B→(j:Int) ∉ B.take i→s.getD j default=(bn w j).Minutes.Lo
 mins:∀ j:Nat,j<w.Burns.length→(j:Int)∈B→(bn w j).Minutes.Lo≤s.getD j default∧s.getD j default≤(bn w j).Minutes.Hi
 top:∀ j:Nat,j<w.Burns.length→(j:Int)∈B.take i→(bn w j).Night≤b→(g = -1∨g<(bn w j).Night)→s.getD j default=(bn w j).Minutes.Hi
 room:g ≠ -1→0≤r
 sum:g ≠ -1→lsum (fun x=>if (bn w x.toNat).Night≤g then s.getD x.toNat default - (bn w x.toNat).Minutes.Lo else 0) (B.take i)+r=room0
 full:g ≠ -1→r=0∨∀ j:Nat,j<w.Burns.length→(j:Int)∈B.take i→(bn w j).Night≤g→s.getD j default=(bn w j).Minutes.Hi
theorem znV {l:List Int} (h:l.Nodup) {i:Nat} (hi:i<l.length):l.getD i default ∉ l.take i:=fun hm=>by
 have h2:(l.take (i+1)).Nodup:=List.Nodup.sublist (List.take_sublist _ _) h
 rw [zbU hi] at h2
 exact (List.nodup_append.1 h2).2.2 _ hm _ (List.mem_singleton.2 rfl) rfl
theorem znm {f g h:Int→Int}:∀ {l:List Int},(∀ x∈l,f x=g x+h x)→lsum f l=lsum g l+lsum h l
 | [],_=>rfl
 | x::l,k=>by
  unfold lsum
  rw [k x (List.mem_cons_self ..),znm (fun y hy=>k y (List.mem_cons_of_mem _ hy))]
  omega
theorem znY {w:Wear} (V:WearOk w) {known:Int} {m:Nat} {S:List mantle_sight} {c:mantle_coat} (hc:CoatOk w known m S c) (hn:∀ x∈S,0≤x.night) {g b:Int} (he:Ends S g b) {life:Int} (hl:OkBy w known m S life) {L T:List Int} (hT:T.length=w.Burns.length) :
 Wp (zbo c life ⟨L,T⟩) (fun r=>r.Lives=L∧MinOk w known m g b life T r.Minutes):=by
 have nu:=V.nu
 unfold zbo
 obtain ⟨r,e,hr⟩:=zmU c (by rw [hc.sights];exact hn)
 rw [hc.sights] at hr
 obtain ⟨e1,e2⟩:=hr.uniq he
 have er:r=(g,b):=Prod.ext e1 e2
 subst er
 refine zau e ?_
 rw [hc.wear]
 have hB:=hc.burns
 generalize c.burns=B at hB ⊢
 have hnd:B.Nodup:=hB.nodup_iff.2 (zmX w known m _)
 have hmem:∀ x:Int,x∈B↔∃ j:Nat,j<w.Burns.length∧ofM w known m j∧x=(j:Int):=fun x=>by rw [hB.mem_iff];exact zps
 have hmemN:∀ j:Nat,(j:Int)∈B↔j<w.Burns.length∧ofM w known m j:=fun j=>by
  rw [hmem]
  constructor
  · rintro ⟨k,h1,h2,e⟩
    have:j=k:=by omega
    subst this;exact ⟨h1,h2⟩
  · rintro ⟨h1,h2⟩;exact ⟨j,h1,h2,rfl⟩
 have hin:∀ i,i<B.length→∃ j:Nat,B.getD i default=(j:Int)∧j<w.Burns.length∧ofM w known m j:=fun i hi=>by
  obtain ⟨j,h1,h2,h3⟩:=(hmem _).1 (zbq hi)
  exact ⟨j,h3,h1,h2⟩
 have hmn:∀ j:Nat,j<w.Burns.length→0≤(bn w j).Minutes.Lo∧(bn w j).Minutes.Lo≤(bn w j).Minutes.Hi∧(bn w j).Minutes.Hi≤1440:=fun j hj=>(zjT V hj).min
 refine zco (fun i s=>s.length=T.length∧∀ j:Nat,j<w.Burns.length→s.getD j default=if (j:Int)∈B.take i then (bn w j).Minutes.Lo else T.getD j default) ⟨rfl,fun j hj=>by rw [List.take_zero,if_neg (by simp [-List.getD_eq_getElem?_getD])]⟩ (fun i s K hi hI hK=>?_) (fun s3 h3=>?_)
 · obtain ⟨q,hq,hq1,hq2⟩:=hin i hi
   obtain ⟨i1,i2⟩:=hI
   rw [hq,Int.toNat_natCast]
   refine zaq (by omega) (zaq (by omega) (hK _ ⟨by rw [List.length_set];exact i1,fun j hj=>?_⟩))
   rw [zhL _ _ _ _ _ (by omega),zbU hi,hq]
   by_cases ej:j=q
   · subst ej
     rw [if_pos rfl,if_pos (by simp [-List.getD_eq_getElem?_getD])];rfl
   · rw [if_neg ej,i2 j hj]
     by_cases ht:(j:Int)∈B.take i
     · rw [if_pos ht,if_pos (List.mem_append.2 (.inl ht))]
     · rw [if_neg ht,if_neg (fun k=>by
        rcases List.mem_append.1 k with k|k
        · exact ht k
        · rw [List.mem_singleton] at k;omega)]
 obtain ⟨l3,g3⟩:=h3
 rw [List.take_length] at g3
 have gin:∀ j:Nat,(j:Int)∈B→s3.getD j default=(bn w j).Minutes.Lo:=fun j hj=>by rw [g3 j ((hmemN j).1 hj).1,if_pos hj]
 have gout:∀ j:Nat,j<w.Burns.length→(j:Int) ∉ B→s3.getD j default=T.getD j default:=fun j hj h=>by rw [g3 j hj,if_neg h]
 have hof:∀ {f n:Int} {j:Nat},j<w.Burns.length→zeW w known (m:Int) f n j=true→(j:Int)∈B:=fun hj h=>(hmemN _).2 ⟨hj,(zja h).1⟩
 have hgood:∀ s∈S,s.bad=false→zgG w known m (-1) s.night≤life:=hl.good
 have hlr:=hl.range
 refine zbI (fun hb=>zat ⟨rfl,⟨l3,fun j hj h=>gout j hj (fun k=>h ((hmemN j).1 k).2),fun j hj h=>?_,fun hg=>?_,fun h=>absurd hb h⟩⟩) (fun hb=>?_)
 · rw [gin j ((hmemN j).2 ⟨hj,h⟩)]
   exact ⟨Int.le_refl _,(hmn j hj).2.1⟩
 · obtain ⟨s,hs,h1,h2⟩:=he.good.resolve_left hg
   have:=hgood s hs h1
   rw [h2] at this
   refine Int.le_trans (zcU (fun i hi hp=>?_)) this
   rw [gin i (hof hi hp)]
   exact Int.le_refl _
 refine zau (zll V hc _ _) ?_
 have hab:=zjV V known m (-1) g
 simp only
 refine zai (by omega) ?_
 have hroom:g ≠ -1→0≤life - zgG w known m (-1) g:=fun hg=>by
  obtain ⟨s,hs,h1,h2⟩:=he.good.resolve_left hg
  have:=hgood s hs h1
  rw [h2] at this
  omega
 refine zco (fun i s=>MinAt w g b (life - zgG w known m (-1) g) B i T s.1 s.2∧s.1≤life) ⟨⟨l3,gout,fun j _ h _=>gin j h,fun j hj h=>by rw [gin j h];exact ⟨Int.le_refl _,(hmn j hj).2.1⟩,fun j _ h=>by simp [-List.getD_eq_getElem?_getD] at h,hroom,fun _=>by rw [List.take_zero];unfold lsum;omega,fun _=>.inr (fun j _ h=>by simp [-List.getD_eq_getElem?_getD] at h)⟩,by simp only;omega⟩ (fun i s K hi hI hK=>?_) (fun s hs=>?_)
 · obtain ⟨q,hq,hq1,hq2⟩:=hin i hi
   obtain ⟨hI,hle⟩:=hI
   obtain ⟨rr,s⟩:=s
   simp only at hI hle ⊢
   have hnt:=znV hnd hi
   rw [hq] at hnt
   have hqB:(q:Int)∈B:=hq▸zbq hi
   have hq0:=hI.rest q hq1 hqB hnt
   have hqm:=hmn q hq1
   rw [hq,Int.toNat_natCast]
   have htk:∀ j:Nat,(j:Int)∈B.take (i+1)↔(j:Int)∈B.take i∨j=q:=fun j=>by
    rw [zbU hi,hq,List.mem_append,List.mem_singleton]
    constructor
    · rintro (h|h)
      · exact .inl h
      · exact .inr (by omega)
    · rintro (h|h)
      · exact .inl h
      · exact .inr (by omega)
   have hsl:s.length=w.Burns.length:=by rw [hI.len,hT]
   -- one burn is set
   have step:∀ v r':Int,(bn w q).Minutes.Lo≤v→v≤(bn w q).Minutes.Hi→((bn w q).Night≤b→(g = -1∨g<(bn w q).Night)→v=(bn w q).Minutes.Hi)→(g ≠ -1→0≤r')→(g ≠ -1→(if (bn w q).Night≤g then v - (bn w q).Minutes.Lo else 0)+r'=rr)→(g ≠ -1→r'=0∨(rr=r'∨0<rr)∧((bn w q).Night≤g→v=(bn w q).Minutes.Hi))→MinAt w g b (life - zgG w known m (-1) g) B (i+1) T r' (s.set q v):=by
    intro v r' v1 v2 v3 v4 v5 v6
    have hget:∀ j:Nat,(s.set q v).getD j default=if j=q then v else s.getD j default:=fun j=>zhL _ _ _ _ _ (by omega)
    refine ⟨by rw [List.length_set];exact hI.len,fun j hj h=>?_,fun j hj h h2=>?_,fun j hj h=>?_,fun j hj h h1 h2=>?_,v4,fun hg=>?_,fun hg=>?_⟩
    · rw [hget,if_neg (fun e:j=q=>h (e▸hqB))];exact hI.other j hj h
    · have h3:=fun k=>h2 ((htk j).2 k)
      rw [hget,if_neg (fun e=>h3 (.inr e))]
      exact hI.rest j hj h (fun k=>h3 (.inl k))
    · rw [hget]
      by_cases e:j=q
      · rw [if_pos e,e];exact ⟨v1,v2⟩
      · rw [if_neg e];exact hI.mins j hj h
    · rw [hget]
      by_cases e:j=q
      · rw [if_pos e];subst e;exact v3 h1 h2
      · rw [if_neg e];exact hI.top j hj (((htk j).1 h).resolve_right e) h1 h2
    · have h5:=v5 hg
      have h6:=hI.sum hg
      rw [zbU hi,zep,hq,Int.toNat_natCast,hget,if_pos rfl]
      have h7:lsum (fun x=>if (bn w x.toNat).Night≤g then (s.set q v).getD x.toNat default - (bn w x.toNat).Minutes.Lo else 0) (B.take i)=lsum (fun x=>if (bn w x.toNat).Night≤g then s.getD x.toNat default - (bn w x.toNat).Minutes.Lo else 0) (B.take i):=zkj (fun x hx=>by
       obtain ⟨j,_,_,ej⟩:=(hmem x).1 (List.mem_of_mem_take hx)
       subst ej
       rw [Int.toNat_natCast,hget,if_neg (fun e:j=q=>hnt (e▸hx))])
      rw [h7]
      omega
    · rcases v6 hg with h|⟨h1,h2⟩
      · exact .inl h
      · rcases hI.full hg with h3|h3
        · rcases h1 with h1|h1
          · exact .inl (h1▸h3)
          · omega
        · refine .inr (fun j hj h h4=>?_)
          rw [hget]
          by_cases e:j=q
          · rw [if_pos e];subst e;exact h2 h4
          · rw [if_neg e];exact h3 j hj (((htk j).1 h).resolve_right e) h4
   refine ze9 (fun s'=>MinAt w g b (life - zgG w known m (-1) g) B (i+1) T s'.1 s'.2∧s'.1≤life) (fun K2 hK2=>?_) (fun s' hs'=>hK _ hs')
   have eb:w.Burns.getD q default=bn w q:=rfl
   rw [eb]
   refine zaq (by omega) (zai (by omega) (zbI (fun hb1=>hK2 _ ⟨?_,hle⟩) (fun hb1=>zcx (fun hb2=>?_) (fun hb2=>?_))))
   · have hset:s.set q (bn w q).Minutes.Lo=s:=by
      refine znz (by rw [List.length_set]) (fun j hj=>?_)
      rw [zhL _ _ _ _ _ (by omega)]
      by_cases e:j=q
      · rw [if_pos e,e,hq0]
      · rw [if_neg e]
     have:=step (bn w q).Minutes.Lo rr (Int.le_refl _) hqm.2.1 (fun h=>absurd h (by omega)) hI.room (fun hg=>by split <;> omega) (fun hg=>?_)
     · rw [hset] at this;exact this
     · rcases hI.full hg with h|h
       · exact .inl h
       · refine .inr ⟨.inl rfl,fun h2=>?_⟩
         have hts:g<b:=by
          obtain ⟨s1,hs1,a1,a2⟩:=he.good.resolve_left hg
          obtain ⟨s2,hs2,a3,a4⟩:=he.bad.resolve_left hb
          have:=(hl.two s1 hs1 s2 hs2 a1 a3).1
          omega
         omega
   · simp only [Bool.and_eq_true,Bool.not_eq_true',decide_eq_false_iff_not,decide_eq_true_eq] at hb2
     have hr0:=hI.room hb2.1
     refine zai (by omega) (zaq (by omega) (zai (by rw [hq0];omega) (zaq (by omega) (hK2 _ ⟨?_,by simp only;omega⟩))))
     rw [hq0]
     simp only
     rcases Int.le_total ((bn w q).Minutes.Hi - (bn w q).Minutes.Lo) rr with hm1|hm1
     · have em:min ((bn w q).Minutes.Hi - (bn w q).Minutes.Lo) rr=(bn w q).Minutes.Hi - (bn w q).Minutes.Lo:=by omega
       rw [em]
       refine step _ _ (by omega) (by omega) (fun _ _=>by omega) (fun _=>by omega) (fun _=>by rw [if_pos hb2.2];omega) (fun _=>?_)
       by_cases hz:rr - ((bn w q).Minutes.Hi - (bn w q).Minutes.Lo)=0
       · exact .inl hz
       · exact .inr ⟨by omega,fun _=>by omega⟩
     · have em:min ((bn w q).Minutes.Hi - (bn w q).Minutes.Lo) rr=rr:=by omega
       rw [em]
       exact step _ _ (by omega) (by omega) (fun _ h=>absurd h (by omega)) (fun _=>by omega) (fun _=>by rw [if_pos hb2.2];omega) (fun _=>.inl (by omega))
   · simp only [Bool.and_eq_false_iff,Bool.not_eq_false',decide_eq_true_eq,decide_eq_false_iff_not] at hb2
     refine zaq (by omega) (zai (by rw [hq0];omega) (zaq (by omega) (hK2 _ ⟨?_,hle⟩)))
     rw [hq0]
     simp only
     have em:(bn w q).Minutes.Lo+((bn w q).Minutes.Hi - (bn w q).Minutes.Lo)=(bn w q).Minutes.Hi:=by omega
     rw [em]
     refine step _ _ hqm.2.1 (Int.le_refl _) (fun _ _=>rfl) hI.room (fun hg=>?_) (fun hg=>?_)
     · rw [if_neg (by omega)];omega
     · rcases hI.full hg with h|h
       · exact .inl h
       · exact .inr ⟨.inl rfl,fun _=>rfl⟩
 · obtain ⟨hs,_⟩:=hs
   obtain ⟨rr,s⟩:=s
   simp only at hs
   have ht:B.take B.length=B:=List.take_length
   have hsum:=hs.sum
   have htop:=hs.top
   have hfull:=hs.full
   rw [ht] at hsum htop hfull
   refine zat ⟨rfl,hs.len,fun j hj h=>hs.other j hj (fun k=>h ((hmemN j).1 k).2),fun j hj h=>hs.mins j hj ((hmemN j).2 ⟨hj,h⟩),?_,fun _=>?_⟩
   all_goals
    have hage:g ≠ -1→ageT w known s m (-1) g=life - rr:=fun hg=>by
     have h1:=hsum hg
     have h2:=zkO hB (fun i=>s.getD i default) (-1) g
     have h3:=zkO hB (fun i=>(bn w i).Minutes.Lo) (-1) g
     have h4:lsum (fun x=>if -1<(bn w x.toNat).Night∧(bn w x.toNat).Night≤g then s.getD x.toNat default else 0) B=lsum (fun x=>if (bn w x.toNat).Night≤g then s.getD x.toNat default - (bn w x.toNat).Minutes.Lo else 0) B+lsum (fun x=>if -1<(bn w x.toNat).Night∧(bn w x.toNat).Night≤g then (bn w x.toNat).Minutes.Lo else 0) B:=znm (fun x hx=>by
      obtain ⟨j,hj,_,ej⟩:=(hmem x).1 hx
      subst ej
      rw [Int.toNat_natCast]
      have:=znH V hj
      by_cases hc:(bn w j).Night≤g
      · rw [if_pos ⟨by omega,hc⟩,if_pos hc,if_pos ⟨by omega,hc⟩];omega
      · rw [if_neg (fun k=>hc k.2),if_neg hc,if_neg (fun k=>hc k.2)];rfl)
     have h5:zgG w known m (-1) g=zaR (zeW w known m (-1) g) (fun i=>(bn w i).Minutes.Lo) w.Burns.length:=rfl
     have h6:ageT w known s m (-1) g=zaR (zeW w known m (-1) g) (fun i=>s.getD i default) w.Burns.length:=rfl
     omega
   · intro hg
     have:=hage hg
     have:=hs.room hg
     simp only;omega
   · obtain ⟨s2,hs2,a3,a4⟩:=he.bad.resolve_left hb
     have hbad:=hl.bad s2 hs2 a3
     rw [a4] at hbad
     have hall:(∀ j:Nat,j<w.Burns.length→(j:Int)∈B→(bn w j).Night≤b→s.getD j default=(bn w j).Minutes.Hi)→life<ageT w known s m (-1) b:=fun h=>by
      refine Int.lt_of_lt_of_le hbad (zcU (fun i hi hp=>?_))
      rw [h i hi (hof hi hp) (zja hp).2.2]
      exact Int.le_refl _
     by_cases hg:g = -1
     · exact hall (fun j hj h h2=>htop j hj h h2 (.inl hg))
     · obtain ⟨s1,hs1,a1,a2⟩:=he.good.resolve_left hg
       have htwo:=hl.two s1 hs1 s2 hs2 a1 a3
       rw [a2,a4] at htwo
       rcases hfull hg with h0|h0
       · have h1:=hage hg
         have h2:ageT w known s m (-1) b=ageT w known s m (-1) g+ageT w known s m g b:=zka (w:=w) (t:=⟨[],s⟩) (known:=known) (m:=(m:Int)) he.g0 (by omega)
         have h3:zeV w known m g b≤ageT w known s m g b:=zcU (fun i hi hp=>by
          have hp2:=zja hp
          rw [htop i hi (hof hi hp) hp2.2.2 (.inr hp2.2.1)]
          exact Int.le_refl _)
         simp only;omega
       · refine hall (fun j hj h h2=>?_)
         rcases Int.lt_or_le g (bn w j).Night with h3|h3
         · exact htop j hj h h2 (.inr h3)
         · exact h0 j hj h h3
end Go.Sp
end
/- Plain laws, mantle: what becomes known later does not matter. No program in sight. -/
section
set_option linter.all false
namespace Go.Sp
open Go.Av
set_option maxRecDepth 100000
end Go.Sp
end
/- Plain laws, mantle: MantleKnown. No program in sight. -/
section
set_option linter.all false
namespace Go.Sp
open Go.Av
set_option maxRecDepth 100000
theorem zqw {fuel:Nat} {l:List Int} (hl:l.length≤60) (hf:1000≤fuel) (x:Int):Wp (zb3 fuel l x) (fun b=>b=true↔x∈l):=by
 unfold zb3
 refine zh6 (n:=l.length) (by omega) (fun i=>l.getD i default≠x) (fun i K hi _ hK=>?_) (fun h K=>zaL (by simp [-List.getD_eq_getElem?_getD]) (zat ⟨fun h=>(by cases h),fun hx=>?_⟩))
 · refine zcs (by simp [-List.getD_eq_getElem?_getD];omega) (zaq (by omega) ?_)
   simp only [Int.toNat_natCast]
   exact zbI (fun h=>zat ⟨fun _=>h▸zbq hi,fun _=>rfl⟩) (fun h=>zai (by omega) (hK h))
 · obtain ⟨i,hi,e⟩:=zdv hx
   exact absurd e (h i hi)
end Go.Sp
end
/- Plain laws, mantle: two looks; MantleTwo. No program in sight. -/
section
set_option linter.all false
namespace Go.Sp
open Go.Av
set_option maxRecDepth 100000
theorem zmt {w:Wear} {known:Int} {L:List Look} {m:Nat} {s:mantle_sight}:s∈sights w known L m↔∃ l∈L,fit w l.Lamp l.Night known=(m:Int)∧zas l.Known l.Until known=true∧s=toS l:=by
 rw [zkI,List.mem_map]
 constructor
 · rintro ⟨l,hl,e⟩
   obtain ⟨h1,h2⟩:=List.mem_filter.1 hl
   unfold zlv at h2
   rw [Bool.and_eq_true,decide_eq_true_eq] at h2
   exact ⟨l,h1,h2.1,h2.2,e.symm⟩
 · rintro ⟨l,hl,h1,h2,e⟩
   exact ⟨l,List.mem_filter.2 ⟨hl,by unfold zlv;rw [Bool.and_eq_true,decide_eq_true_eq];exact ⟨h1,h2⟩⟩,e.symm⟩
end Go.Sp
end
/- Plain laws, mantle: one look more; MantleLooked. No program in sight. -/
section
set_option linter.all false
namespace Go.Sp
open Go.Av
set_option maxRecDepth 100000
structure MoreL (w:Wear) (known:Int) (t:Lives) (L:List Look):Prop where
 ok:WearOk w
 tr:TrueT w t
 right:zjW w known t w.Looks
 ok2:WearOk (zg9 w L)
 right2:zjW (zg9 w L) known t L
 sub:∀ l∈w.Looks,l∈L
theorem ziF {P Q:Nat→Bool} {n:Nat} (h:∀ i,i<n→P i=true→Q i=true):zaR P (fun _=>1) n≤zaR Q (fun _=>1) n:=zf9 (fun _ _=>by decide) h
theorem zm0 {w:Wear} (V:WearOk w) {i:Nat} (hi:i<w.Batches.length):zdh w (ba w i).Id=(i:Int):=by
 have h0:0≤zdh w (ba w i).Id:=by
  rcases Int.lt_or_le (zdh w (ba w i).Id) 0 with h|h
  · exact absurd ⟨i,hi,rfl⟩ (zgW.1 h)
  · exact h
 have h1:=zjU w (ba w i).Id
 have:=zqv V (i:=(zdh w (ba w i).Id).toNat) (by omega) hi (zmf h0)
 omega
end Go.Sp
end
/- Plain laws, mantle: Attain; MantleWhatever. No program in sight. -/
section
set_option linter.all false
namespace Go.Sp
open Go.Av
set_option maxRecDepth 100000
theorem zlJ (l:List Int) (x:Int):Wp (zb4 l x) (fun b=>b=true↔x∈l):=by
 unfold zb4 zdt
 refine wp_bind (Q:=fun i=>0≤i↔x∈l) (zeH (fun i=>l.getD i default≠x) (fun i K hi _ hK=>zbI (fun h=>zat ⟨fun _=>h▸zbq hi,fun _=>by omega⟩) (fun h=>hK (fun e=>h e.symm))) (fun h=>zat ⟨fun h0=>by omega,fun hx=>?_⟩)) (fun i hi=>zat (by rw [decide_eq_true_eq];exact hi))
 obtain ⟨i,hi,e⟩:=zdv hx
 exact absurd e (h i hi)
theorem zkF {P:Nat→Bool} {f g:Nat→Int} {n:Nat} (h:∀ i,i<n→P i=true→f i=g i):zaR P f n=zaR P g n:=
 Int.le_antisymm (zcU (fun i hi hp=>by rw [h i hi hp];exact Int.le_refl _)) (zcU (fun i hi hp=>by rw [h i hi hp];exact Int.le_refl _))
structure Edge (w:Wear) (known:Int) (high:Bool) (L:List Int):Prop where
 len:L.length=w.Batches.length
 mem:∀ b,b<w.Batches.length→ze8 w known (allS w known) b (L.getD b default)
 lo:high=true→∀ b,b<w.Batches.length→∀ x,ze8 w known (allS w known) b x→L.getD b default≤x
 hi:high=false→∀ b,b<w.Batches.length→∀ x,ze8 w known (allS w known) b x→x≤L.getD b default
open Classical in
noncomputable def attS (w:Wear) (known:Int) (P:List Int) (night:Int) (high:Bool) (L:List Int) (i:Nat):List mantle_sight:=
 if (i:Int)∈lotM w P night known∧OkBy w known i (allS w known i++[⟨night,high⟩]) (L.getD (bat w i).toNat default) then allS w known i++[⟨night,high⟩] else allS w known i
theorem znK {w:Wear} {known:Int} {P:List Int} {night:Int} {high:Bool} {L:List Int} {i:Nat}:∀ s∈allS w known i,s∈attS w known P night high L i:=fun s hs=>by
 unfold attS
 split
 · exact List.mem_append.2 (.inl hs)
 · exact hs
theorem znJ {w:Wear} {known:Int} {P:List Int} {night:Int} {high:Bool} {L:List Int} {i:Nat} (h:(i:Int)∈lotM w P night known∧OkBy w known i (allS w known i++[⟨night,high⟩]) (L.getD (bat w i).toNat default)):attS w known P night high L i=allS w known i++[⟨night,high⟩]:=by
 unfold attS;exact if_pos h
theorem zpv {w:Wear} {known:Int} {P:List Int} {night:Int} {high:Bool} {L:List Int} {i:Nat} (h:¬ ((i:Int)∈lotM w P night known∧OkBy w known i (allS w known i++[⟨night,high⟩]) (L.getD (bat w i).toNat default))):attS w known P night high L i=allS w known i:=by
 unfold attS;exact if_neg h
theorem zli {w:Wear} (V:WearOk w) {known:Int} {S:Nat→List mantle_sight} {i:Nat} (hi:i<w.Mantles.length) {x:Int} (h:ze8 w known S (bat w i).toNat x):OkBy w known i (S i) x:=h.2 i hi (by have:=zfz V hi;omega)
structure AttAt (w:Wear) (known:Int) (C:Nat→List mantle_sight) (L:List Int) (j:Nat) (T:List Int):Prop where
 len:T.length=w.Burns.length
 mins:∀ i,i<w.Burns.length→(bn w i).Minutes.Lo≤T.getD i default∧T.getD i default≤(bn w i).Minutes.Hi
 done:∀ i:Nat,i<j→∃ g b,Ends (C i) g b∧(g ≠ -1→ageT w known T i (-1) g≤L.getD (bat w i).toNat default)∧(b ≠ -1→L.getD (bat w i).toNat default<ageT w known T i (-1) b)
theorem AttAt.step {w:Wear} {known:Int} {C:Nat→List mantle_sight} {L:List Int} {j:Nat} {T T':List Int} (h:AttAt w known C L j T) {g b:Int} (he:Ends (C j) g b) (hm:MinOk w known j g b (L.getD (bat w j).toNat default) T T'):AttAt w known C L (j+1) T':=by
 have nb:w.Burns.length=T.length:=h.len.symm
 refine ⟨hm.len.trans h.len,fun i hi=>?_,fun i hi=>?_⟩
 · by_cases ho:ofM w known j i
   · exact hm.mins i hi ho
   · rw [hm.other i hi ho];exact h.mins i hi
 · by_cases e:i=j
   · subst e;exact ⟨g,b,he,hm.good,hm.bad⟩
   · obtain ⟨g',b',k1,k2,k3⟩:=h.done i (by omega)
     have hc:∀ n,ageT w known T' i (-1) n=ageT w known T i (-1) n:=fun n=>zkF (fun q hq hp=>hm.other q hq (fun ho=>by
      have h1:=(zja hp).1.2
      have h2:=ho.2
      omega))
     exact ⟨g',b',k1,fun hg=>by rw [hc];exact k2 hg,fun hb=>by rw [hc];exact k3 hb⟩
theorem AttAt.true {w:Wear} (V:WearOk w) {known:Int} {C:Nat→List mantle_sight} {L:List Int} {T:List Int} (hL:L.length=w.Batches.length) (hl:∀ b,b<w.Batches.length→inR (ba w b).Life (L.getD b default)) (h:AttAt w known C L w.Mantles.length T):TrueT w ⟨L,T⟩∧ze7 w known ⟨L,T⟩ C:=by
 have ht:TrueT w ⟨L,T⟩:=⟨hL,hl,h.len,h.mins⟩
 refine ⟨ht,fun m hm s hs=>?_⟩
 obtain ⟨g,b,he,k2,k3⟩:=h.done m hm
 unfold tBad
 cases hb:s.bad with
 | false=>
  have h1:=he.top s hs hb
  have hg:g ≠ -1∨g = -1:=by omega
  have h2:=zji V ht (known:=known) (m:=(m:Int)) (f:=-1) h1
  symm
  rw [decide_eq_false_iff_not]
  rcases hg with hg|hg
  · have h3:tAge w known ⟨L,T⟩ m (-1) g≤L.getD (bat w m).toNat default:=k2 hg
    simp only;omega
  · have h3:tAge w known ⟨L,T⟩ m (-1) g≤0:=by
     rw [hg]
     have:tAge w known ⟨L,T⟩ m (-1) (-1)≤zeV w known m (-1) (-1):=zkE ht known m (-1) (-1)
     have h0:zeV w known m (-1) (-1)=zaR (fun _=>false) (fun i=>(bn w i).Minutes.Hi) w.Burns.length:=zeg (fun i _=>by
      unfold zeW
      have e:(decide (-1<(bn w i).Night) && decide ((bn w i).Night ≤ -1))=false:=by
       rw [Bool.and_eq_false_iff,decide_eq_false_iff_not,decide_eq_false_iff_not];omega
      rw [e,Bool.and_false])
     have h00:∀ n,zaR (fun _=>false) (fun i=>(bn w i).Minutes.Hi) n=0:=by
      intro n
      induction n with
      | zero=>rfl
      | succ n ih=>unfold zaR;rw [ih];rfl
     rw [h0,h00] at this
     exact this
    have h4:=zmD V (q:=(bat w m).toNat) (by have:=zfz V hm;omega) (hl (bat w m).toNat (by have:=zfz V hm;omega))
    simp only;omega
 | true=>
  have h1:=he.low s hs hb
  have h2:=zji V ht (known:=known) (m:=(m:Int)) (f:=-1) h1.2
  have h3:L.getD (bat w m).toNat default<tAge w known ⟨L,T⟩ m (-1) b:=k3 h1.1
  symm
  rw [decide_eq_true_eq]
  simp only;omega
theorem zpu {w:Wear} (V:WearOk w) {fuel:Nat} (hf:1000≤fuel) {P:List Int} {night known:Int} (hP:LotOk w P night known) (hs:zcF w known (allS w known)) (high:Bool) :
 Wp (zdQ fuel w P night known high) (fun r=>r.2=0∧TrueT w r.1∧Edge w known high r.1.Lives∧ze7 w known r.1 (attS w known P night high r.1.Lives)):=by
 have nm:=V.nm;have nu:=V.nu;have nb:=V.nb
 unfold zdQ
 refine wp_bind (zjj V hf hP (by omega) hs) (fun y hy=>?_)
 obtain ⟨h1,h2⟩:=hy
 have hu:=h2.hung
 rw [h1]
 refine zaL (by simp [-List.getD_eq_getElem?_getD]) ?_
 rw [hu.len]
 refine zco (fun i s=>s.length=i∧∀ b,b<i→s.getD b default=if high=true then (y.1.closet.lives.getD b default).Lo else (y.1.closet.lives.getD b default).Hi) ⟨rfl,fun b hb=>absurd hb (Nat.not_lt_zero _)⟩ (fun i s K hi hI hK=>?_) (fun L hL=>?_)
 · obtain ⟨i1,i2⟩:=hI
   refine ze9 (fun x=>x=if high=true then (y.1.closet.lives.getD i default).Lo else (y.1.closet.lives.getD i default).Hi) (fun K2 hK2=>?_) (fun x hx=>zbO (by simp [-List.getD_eq_getElem?_getD];omega) (hK _ ⟨by simp [-List.getD_eq_getElem?_getD,i1],fun b hb=>?_⟩))
   · cases high
     · exact hK2 _ rfl
     · exact hK2 _ rfl
   · rw [zcj]
     by_cases e:b=s.length
     · rw [if_pos e,hx,e,i1]
     · rw [if_neg e];exact i2 b (by omega)
 obtain ⟨l1,l2⟩:=hL
 have hE:Edge w known high L:=by
  have hne:∀ b,b<w.Batches.length→(y.1.closet.lives.getD b default).Lo≤(y.1.closet.lives.getD b default).Hi:=fun b hb=>by
   obtain ⟨x,hx⟩:=hs b hb
   have:=(hu.lives b hb x).2 hx
   unfold inR at this
   omega
  refine ⟨l1,fun b hb=>?_,fun h b hb x hx=>?_,fun h b hb x hx=>?_⟩
  · rw [l2 b hb]
    have:=hne b hb
    refine (hu.lives b hb _).1 ?_
    unfold inR
    split <;> omega
  · rw [l2 b hb,if_pos h]
    have:=(hu.lives b hb x).2 hx
    exact this.1
  · rw [l2 b hb,if_neg (by rw [h];decide)]
    have:=(hu.lives b hb x).2 hx
    exact this.2
 refine zco (fun i s=>s.length=i∧∀ q,q<i→s.getD q default=(bn w q).Minutes.Lo) ⟨rfl,fun b hb=>absurd hb (Nat.not_lt_zero _)⟩ (fun i s K hi hI hK=>?_) (fun T hT=>?_)
 · obtain ⟨i1,i2⟩:=hI
   refine zbO (by simp [-List.getD_eq_getElem?_getD];omega) (hK _ ⟨by simp [-List.getD_eq_getElem?_getD,i1],fun q hq=>?_⟩)
   rw [zcj]
   by_cases e:q=s.length
   · rw [if_pos e,e,i1];rfl
   · rw [if_neg e];exact i2 q (by omega)
 obtain ⟨t1,t2⟩:=hT
 refine zau (zmV _ (by simp only;rw [hu.wear];exact nm)) ?_
 simp only
 rw [hu.wear]
 refine zml w.Mantles.length _ (fun j s=>s.1=L∧AttAt w known (attS w known P night high L) L j s.2) ⟨rfl,t1,fun i hi=>?_,fun i hi=>absurd hi (Nat.not_lt_zero _)⟩ (fun j s K hj hI hK=>?_) (fun s hsI=>zat ?_)
 · rw [t2 i hi]
   have:=(zjT V hi).min
   omega
 · obtain ⟨s1,s2⟩:=s
   obtain ⟨e1,hA⟩:=hI
   simp only at e1 hA ⊢
   subst e1
   have hb:=zfz V hj
   obtain ⟨x,ex,hx⟩:=hu.coats j hj
   rw [ex,Option.getD_some]
   have hok:OkBy w known j (allS w known j) (s1.getD (bat w j).toNat default):=zli V hj (hE.mem _ (by omega))
   refine zau (zlh hu hj) (zaq (by rw [hE.len];exact hb) (wp_bind (zlJ _ _) (fun z hz=>?_)))
   rw [h2.mantles] at hz
   have hns:∀ s∈allS w known j,0≤s.night:=hu.nights j hj
   have hns2:∀ s∈allS w known j++[(⟨night,high⟩:mantle_sight)],0≤s.night:=fun s hs=>by
    rcases List.mem_append.1 hs with hs|hs
    · exact hns s hs
    · rw [List.mem_singleton] at hs;subst hs;exact hP.nOk.1
   refine ze9 (fun c=>CoatOk w known j (attS w known P night high s1 j) c) (fun K2 hK2=>?_) (fun c hc=>?_)
   · refine zcx (fun hz1=>?_) (fun hz1=>hK2 _ ?_)
     · have hlm:=hz.1 hz1
       refine wp_bind (zmn hx _ (by have:=hu.few j hj;omega)) (fun c hc=>?_)
       obtain ⟨g,b,he⟩:=zjM _ hns2
       refine zau (zi7 V hc hns2 he) (zau (zi7 V hc hns2 he) ?_)
       have hl:=zjz V hns2 he (s1.getD (bat w j).toNat default) (known:=known) (m:=(j:Int))
       refine zcx (fun hw=>hK2 _ ?_) (fun hw=>hK2 _ ?_)
       · rw [mwithin,Bool.and_eq_true,decide_eq_true_eq,decide_eq_true_eq] at hw
         rw [znJ ⟨hlm,hl.1 hw⟩];exact hc
       · rw [zpv (fun k=>?_)]
         · exact hx
         · have k2:=hl.2 k.2
           unfold inR at k2
           have:zay (s1.getD (bat w j).toNat default) (zil w known j g b).Lo (zil w known j g b).Hi=true:=by
            rw [mwithin,Bool.and_eq_true,decide_eq_true_eq,decide_eq_true_eq];exact k2
           rw [this] at hw;cases hw
     · rw [zpv (fun k=>by rw [hz.2 k.1] at hz1;cases hz1)]
       exact hx
   · have hns3:∀ s∈attS w known P night high s1 j,0≤s.night:=fun s hs=>by
      unfold attS at hs
      split at hs
      · exact hns2 s hs
      · exact hns s hs
     have hok3:OkBy w known j (attS w known P night high s1 j) (s1.getD (bat w j).toNat default):=by
      unfold attS
      split
      · rename_i h;exact h.2
      · exact hok
     obtain ⟨g,b,he⟩:=zjM _ hns3
     refine wp_bind (znY V hc hns3 he hok3 (L:=s1) (T:=s2) hA.len) (fun r hr=>?_)
     obtain ⟨r1,r2⟩:=hr
     refine zaq (by rw [r1]) (zaq r2.len (hK _ ⟨r1,hA.step he r2⟩))
 · obtain ⟨s1,s2⟩:=s
   obtain ⟨e1,hA⟩:=hsI
   simp only at e1 hA ⊢
   subst e1
   obtain ⟨k1,k2⟩:=hA.true V hE.len (fun b hb=>(hE.mem b hb).1)
   exact ⟨trivial,k1,hE,k2⟩
theorem zkt {w:Wear} (V:WearOk w) {P:List Int} {night known:Int} (hP:LotOk w P night known) {high:Bool} {t:Lives} (ht:TrueT w t) (hE:Edge w known high t.Lives) (hR:ze7 w known t (attS w known P night high t.Lives)) {i:Nat} (hi:i<P.length) :
 tBad w known t (fit w (P.getD i default) night known).toNat night=(if high=true then !decide (stateR w known (allS w known) (fit w (P.getD i default) night known).toNat night=0) else decide (stateR w known (allS w known) (fit w (P.getD i default) night known).toNat night=1)):=by
 have h0:=hP.fits i hi
 have hlt:=zjE w (P.getD i default) night known
 obtain ⟨m,hm⟩:∃ m:Nat,fit w (P.getD i default) night known=(m:Int):=⟨_,(Int.toNat_of_nonneg h0).symm⟩
 have hmem:(m:Int)∈lotM w P night known:=by
  rw [← hm,← zi6 hi]
  exact zbq (by unfold lotM;rw [List.length_map];exact hi)
 rw [hm,Int.toNat_natCast]
 have hml:m<w.Mantles.length:=by omega
 have hb:=zfz V hml
 have hR0:ze7 w known t (allS w known):=fun q hq s hs=>hR q hq s (znK s hs)
 have hc:=zl9 V ht hR0 hml night
 have hlife:=hE.mem (bat w m).toNat (by omega)
 have hok:=zli V hml hlife
 have hns:∀ s∈allS w known m,0≤s.night:=fun s hs=>by
  obtain ⟨l,hl,_,_,e⟩:=zmt.1 hs
  rw [e];exact (zfL V).2 l hl
 obtain ⟨g,b,he⟩:=zjM _ hns
 -- with a life at the edge it is so,if it may be so
 have hedge:zfl w known (allS w known) m night high→tBad w known t m night=high:=fun k=>by
  rw [zma V hml] at k
  obtain ⟨x,x1,x2⟩:=k
  have hx:=zli V hml x1
  have hyes:OkBy w known m (allS w known m++[⟨night,high⟩]) (t.Lives.getD (bat w m).toNat default):=by
   cases high with
   | true=>
    have k1:=(zpp V hP.nOk.1 hns he hx).1 x2
    have:=hE.lo rfl _ (by omega) x x1
    exact (zpp V hP.nOk.1 hns he hok).2 ⟨k1.1,by omega,k1.2.2⟩
   | false=>
    have k1:=(znF V hP.nOk.1 he hx).1 x2
    have:=hE.hi rfl _ (by omega) x x1
    exact (znF V hP.nOk.1 he hok).2 ⟨by omega,k1.2⟩
  have:=hR m hml ⟨night,high⟩ (by rw [znJ ⟨hmem,hyes⟩];exact List.mem_append.2 (.inr (List.mem_singleton.2 rfl)))
  exact this.symm
 cases high with
 | true=>
  rw [if_pos rfl]
  rcases ze0 (w:=w) (known:=known) (S:=allS w known) (m:=m) (night:=night) with ⟨s,k1⟩|⟨s,k1,k2⟩|⟨s,k1,k2⟩
  · rw [s]
    cases hb:tBad w known t m night with
    | false=>rfl
    | true=>rw [hb] at hc;exact absurd hc k1
  · rw [s,hedge k1];rfl
  · rw [s,hedge k1];rfl
 | false=>
  rw [if_neg (by decide)]
  rcases ze0 (w:=w) (known:=known) (S:=allS w known) (m:=m) (night:=night) with ⟨s,k1⟩|⟨s,k1,k2⟩|⟨s,k1,k2⟩
  · rw [s]
    cases hb:tBad w known t m night with
    | false=>rfl
    | true=>rw [hb] at hc;exact absurd hc k1
  · rw [s]
    cases hb:tBad w known t m night with
    | true=>rfl
    | false=>rw [hb] at hc;exact absurd hc k2
  · rw [s,hedge k2];rfl
theorem zhA {P Q:Nat→Bool} {n:Nat} (h:∀ i,i<n→P i=Q i):zaR P (fun _=>1) n=zaR Q (fun _=>1) n:=zeg h
theorem zod {w:Wear} (V:WearOk w) {P:List Int} {night known:Int} (hP:LotOk w P night known) {high:Bool} {t:Lives} (ht:TrueT w t) (hE:Edge w known high t.Lives) (hR:ze7 w known t (attS w known P night high t.Lives)) :
 ((zkD w known t P night).length:Int)=if high=true then lotHi w P night known P.length else lotLo w P night known P.length:=by
 rw [zlp]
 cases high with
 | true=>
  rw [if_pos rfl]
  unfold lotHi
  exact zhA (fun i hi=>by rw [zkt V hP ht hE hR hi,if_pos rfl])
 | false=>
  rw [if_neg (by decide)]
  unfold lotLo
  exact zhA (fun i hi=>by rw [zkt V hP ht hE hR hi,if_neg (by decide)])
theorem zol {w:Wear} {known:Int} {t:Lives} {P:List Int} {night:Int} {x:Int}:x∈zkD w known t P night↔x∈P∧tBad w known t (fit w x night known).toNat night=true:=by
 unfold zkD;rw [List.mem_filter]
theorem zkc {w:Wear} (V:WearOk w) {t:Lives} (ht:TrueT w t) {known:Int} (hS:ze7 w known t (allS w known)) {m:Nat} (hm:m<w.Mantles.length) (night:Int):(stateR w known (allS w known) m night=1→tBad w known t m night=true)∧(stateR w known (allS w known) m night=0→tBad w known t m night=false):=by
 have hc:=zl9 V ht hS hm night
 rcases ze0 (w:=w) (known:=known) (S:=allS w known) (m:=m) (night:=night) with ⟨s,k1⟩|⟨s,k1,k2⟩|⟨s,k1,k2⟩
 · refine ⟨fun h=>by omega,fun _=>?_⟩
   cases hb:tBad w known t m night with
   | false=>rfl
   | true=>rw [hb] at hc;exact absurd hc k1
 · refine ⟨fun _=>?_,fun h=>by omega⟩
   cases hb:tBad w known t m night with
   | true=>rfl
   | false=>rw [hb] at hc;exact absurd hc k2
 · exact ⟨fun h=>by omega,fun h=>by omega⟩
theorem zmm {w:Wear} (V:WearOk w) {t:Lives} (ht:TrueT w t) {P:List Int} {night known:Int} (hP:LotOk w P night known) (hS:ze7 w known t (allS w known)):lotLo w P night known P.length≤((zkD w known t P night).length:Int)∧((zkD w known t P night).length:Int)≤lotHi w P night known P.length:=by
 rw [zlp]
 have hst:∀ i,i<P.length→_:=fun i hi=>zkc V ht hS (m:=(fit w (P.getD i default) night known).toNat) (by have:=hP.fits i hi;have:=zjE w (P.getD i default) night known;omega) night
 exact ⟨ziF (fun i hi hp=>(hst i hi).1 (of_decide_eq_true hp)),ziF (fun i hi hp=>by
  rw [Bool.not_eq_true',decide_eq_false_iff_not]
  intro h0
  rw [(hst i hi).2 h0] at hp;cases hp)⟩
theorem zhv (r:gasolierref06_Raw) (q:List Int) (n:Arr2 Int):zaS 1000 r q n=some true:=by
 unfold zaS
 refine Wp.eq (zau zop (wp_bind (zdP (by omega)) (fun night hn=>wp_bind (zdP (by omega)) (fun known hk=>wp_bind (zqT (by omega) r q) (fun z hz=>?_)))))
 obtain ⟨w0,t⟩:=z
 simp only at hz ⊢
 refine zau (zpP hz.ok hz.tr (by omega) known) ?_
 have V:=zov hz.ok known t
 have hT:TrueT (ziJ w0 known t) t:=zpE hz.tr _
 have hR:=zlz w0 known t
 generalize ziJ w0 known t=w at V hT hR ⊢
 have hS:ze7 w known t (allS w known):=zow hR
 have hs:zcF w known (allS w known):=zlt V hT hR
 have hkn:zaP known:=⟨by omega,by omega⟩
 have hni:zaP night:=⟨by omega,by omega⟩
 have nb:=V.nb
 refine zoj rfl (ziP V (by omega) hkn hT hS) (zaL rfl ?_)
 obtain ⟨b,b1,b2⟩:=zoS V.fits (fuel:=1000) (by omega) known
 obtain ⟨e0,e1⟩:=b2.ok V hkn
 refine zau b1 ?_
 rw [e0,e1.2 hs]
 refine zaL (by simp [-List.getD_eq_getElem?_getD]) ?_
 refine zh6 (n:=w.Batches.length) (by omega) (fun _=>True) (fun i K hi _ hK=>?_) (fun _ K=>zaL (by simp [-List.getD_eq_getElem?_getD]) ?_)
 · refine zcs (by simp [-List.getD_eq_getElem?_getD];omega) (zaq (by omega) ?_)
   simp only [Int.toNat_natCast]
   obtain ⟨c,c1,c2⟩:=zpZ V.fits (fuel:=1000) (by omega) (w.Batches.getD i default).Id known
   have hbi:zdh w (w.Batches.getD i default).Id=(i:Int):=zm0 V hi
   obtain ⟨c3,c4⟩:=c2.ok V hkn (by omega) hs
   rw [hbi,Int.toNat_natCast] at c4
   refine zau c1 (zaq (fun _=>by rw [hT.nl];omega) (zaL ?_ (zai (by omega) (hK trivial))))
   have:=(c4 _).2 (zkd V hT hR i hi)
   unfold inR at this
   rw [c3,Bool.or_eq_false_iff]
   refine ⟨rfl,?_⟩
   unfold zaW
   rw [Bool.not_eq_false',Bool.and_eq_true,decide_eq_true_eq,decide_eq_true_eq];exact this
 refine zau (zpO V (by omega) night known) ?_
 refine zbI (fun _=>zat rfl) (fun h0=>?_)
 have hP:=zqV (w:=w) (night:=night) (known:=known) (by omega) hni hkn
 generalize lot5 w night known=P at hP ⊢
 have hPl:=hP.len
 refine zau (zok V (by omega) hP hT hS) (zau (zqU V (by omega) hP hs) ?_)
 have hwi:=zmm V hT hP hS
 have hwl:(zkD w known t P night).length≤20:=Nat.le_trans (List.length_filter_le _ _) hPl.2
 refine zaL (by
  unfold zaW
  simp only [decide_true,Bool.not_true,Bool.or_self,Bool.false_or]
  rw [Bool.not_eq_false',Bool.and_eq_true,decide_eq_true_eq,decide_eq_true_eq];exact hwi) ?_
 refine zh6 (n:=P.length) (by omega) (fun _=>True) (fun i K hi _ hK=>?_) (fun _ K=>zaL (by simp [-List.getD_eq_getElem?_getD]) ?_)
 · refine zcs (by simp [-List.getD_eq_getElem?_getD];omega) (zaq (by omega) ?_)
   simp only [Int.toNat_natCast]
   refine zau (zoR V (by omega) _ _ _) ?_
   have l1:=hP.lamp i hi
   have f1:=hP.fits i hi
   have hlt:=zjE w (P.getD i default) night known
   have le1:zcB w (P.getD i default) night known=0:=zlP l1 ⟨hni,hkn⟩ (by omega)
   rw [zlr le1 hs]
   have hst:=zkc V hT hS (m:=(fit w (P.getD i default) night known).toNat) (by omega) night
   have hmem:(P.getD i default)∈zkD w known t P night↔tBad w known t (fit w (P.getD i default) night known).toNat night=true:=by
    rw [zol];exact ⟨fun h=>h.2,fun h=>⟨zbq hi,h⟩⟩
   generalize stateR w known (allS w known) (fit w (P.getD i default) night known).toNat night=st at hst ⊢
   refine zaq (fun _=>by omega) (zkC (fun _=>zqw (by omega) (by omega) _) (fun y39 h39=>zaq (fun _=>by omega) (zkC (fun _=>zqw (by omega) (by omega) _) (fun y42 h42=>?_))))
   simp only [decide_true,Bool.not_true,Bool.not_false,Bool.true_and,Bool.false_or,decide_eq_true_eq] at h39 h42 ⊢
   refine zaL ?_ (zai (by omega) (hK trivial))
   rw [Bool.or_eq_false_iff,Bool.and_eq_false_iff,Bool.and_eq_false_iff,decide_eq_false_iff_not,decide_eq_false_iff_not]
   by_cases s1:st=1
   · have:=(h39 s1).2 (hmem.2 (hst.1 s1))
     exact ⟨.inr (by rw [this];rfl),.inl (by omega)⟩
   · refine ⟨.inl s1,?_⟩
     by_cases s0:st=0
     · refine .inr ?_
       have:=h42 (by rw [s0];rfl)
       cases hy:y42 with
       | false=>rfl
       | true=>
        have h5:=hmem.1 (this.1 hy)
        rw [hst.2 s0] at h5;cases h5
     · exact .inl s0
 · refine zh6 (n:=2) (by omega) (fun _=>True) (fun i K hi _ hK=>?_) (fun _ K=>zaL (by simp [-List.getD_eq_getElem?_getD]) (zat rfl))
   refine zcs (by simp [-List.getD_eq_getElem?_getD];omega) (wp_bind (zpu V (by omega) hP hs _) (fun y hy=>?_))
   obtain ⟨y1,y2,y3,y4⟩:=hy
   have hS2:ze7 w known y.1 (allS w known):=fun m hm s hs=>y4 m hm s (znK s hs)
   refine zau (zok V (by omega) hP y2 hS2) ?_
   have hlen:=zod V hP y2 y3 y4
   refine zoj (by rw [y1];rfl) (ziP V (by omega) hkn y2 hS2) (zaq (fun _=>by omega) (zaL ?_ (zai (by omega) (hK trivial))))
   rw [y1]
   simp only [decide_true,Bool.not_true,Bool.or_self,Bool.false_or]
   rw [Bool.not_eq_false',decide_eq_true_eq,hlen]
   match i,hi with
   | 0,_=>rfl
   | 1,_=>rfl
end Go.Sp
end
