/- Texts of the framework, or of the plain law, one behind another. -/
import Derived.Test.YtakjeajlmlmkeaaGreatFr1
import Derived.Test.YtakjeajlmlmkeaaGreatFr4
import Derived.KernelRfl
/- Rules for plain laws: what a printed definition yields. No program in sight. -/
section
set_option linter.all false
namespace Go.Sp
open Go.Av
def Wp {R:Type} (x:Option R) (P:R→Prop):Prop:=∃ r,x=some r∧P r
theorem Wp.eq {R:Type} {x:Option R} {v:R} (h:Wp x (· = v)):x=some v:=by
 obtain ⟨r,h1,h2⟩:=h;rw [h1,h2]
theorem zam {R:Type} {r:R} {P:R→Prop} (h:P r):Wp (some r) P:=⟨r,rfl,h⟩
theorem zap {R:Type} {c:Prop} [Decidable c] {x:Option R} {P:R→Prop} (h:c) (k:Wp x P):Wp (must c x) P:=by
 unfold must;rw [if_pos h];exact k
theorem wp_bind {S R:Type} {x:Option S} {k:S→Option R} {P:R→Prop} {Q:S→Prop} (h:Wp x Q) (hk:∀ s,Q s→Wp (k s) P):Wp (zao x k) P:=by
 obtain ⟨r,h1,h2⟩:=h;rw [h1];exact hk r h2
theorem zau {S R:Type} {x:Option S} {k:S→Option R} {P:R→Prop} {v:S} (h:x=some v) (hk:Wp (k v) P):Wp (zao x k) P:=by
 rw [h];exact hk
theorem zbw {R:Type} {b:Bool} {x y:Option R} {P:R→Prop} (h1:b=true→Wp x P) (h2:b=false→Wp y P):Wp (bif b then x else y) P:=by
 cases b
 · exact h2 rfl
 · exact h1 rfl
theorem wp_if {R:Type} {p:Prop} {b:Bool} {x y:Option R} {P:R→Prop} (hb:b=true↔p) (h1:p→Wp x P) (h2:¬ p→Wp y P):Wp (bif b then x else y) P:=
 zbw (fun h=>h1 (hb.1 h)) (fun h=>h2 (fun hp=>by rw [hb.2 hp] at h;cases h))
theorem zbM {R:Type} {p:Prop} [Decidable p] {x y:Option R} {P:R→Prop} (h1:p→Wp x P) (h2:¬ p→Wp y P):Wp (bif (decide p) then x else y) P:=
 wp_if (decide_eq_true_iff) h1 h2
theorem zeV {R:Type} {p:Prop} [Decidable p] {x y:Option R} {P:R→Prop} (h1:¬ p→Wp x P) (h2:p→Wp y P):Wp (bif (!decide p) then x else y) P:=
 zbw (fun h=>h1 (by simpa using h)) (fun h=>h2 (by simpa using h))
theorem za9 {R:Type} {b:Bool} {x y:Option R} {P:R→Prop} (h:b=true) (h1:Wp x P):Wp (bif b then x else y) P:=by rw [h];exact h1
theorem zaU {R:Type} {b:Bool} {x y:Option R} {P:R→Prop} (h:b=false) (h1:Wp y P):Wp (bif b then x else y) P:=by rw [h];exact h1
theorem zeq {S R:Type} {f:(S→Option R)→Option R} {k:S→Option R} {P:R→Prop} (G:S→Prop) (hf:∀ K:S→Option R,(∀ s,G s→Wp (K s) P)→Wp (f K) P) (hk:∀ s,G s→Wp (k s) P):Wp (zg5 f k) P:=hf k hk
theorem zeB {S R:Type} {body:Nat→S→(S→Option R)→Option R} {ex:S→Option R} {n:Nat} {s0:S} {P:R→Prop} (Inv:Nat→S→Prop) (h0:Inv 0 s0)
 (hb:∀ (i:Nat) s (K:S→Option R),i<n→Inv i s→(∀ s',Inv (i+1) s'→Wp (K s') P)→Wp (body i s K) P) (he:∀ s,Inv n s→Wp (ex s) P):Wp (zas body ex n 0 s0) P:=by
 have go:∀ (m i:Nat),i+m=n→∀ s,Inv i s→Wp (zas body ex m i s) P:=by
  intro m
  induction m with
  | zero=>intro i hi s hs;have e:i=n:=(by omega);subst e;exact he s hs
  | succ m ih=>intro i hi s hs;exact hb i s _ (by omega) hs (fun s' h'=>ih (i+1) (by omega) s' h')
 exact go n 0 (by omega) s0 h0
theorem wp_loop {S R:Type} {body:S→(S→Option R)→Option R} {fuel:Nat} {s0:S} {P:R→Prop} (Inv:S→Prop) (μ:S→Nat) (hf:μ s0<fuel) (h0:Inv s0)
 (hb:∀ s (K:S→Option R),Inv s→(∀ s',Inv s'→μ s'<μ s→Wp (K s') P)→Wp (body s K) P):Wp (loopGo body fuel s0) P:=by
 have go:∀ (f:Nat) s,Inv s→μ s<f→Wp (loopGo body f s) P:=by
  intro f
  induction f with
  | zero=>intro s _ h;omega
  | succ f ih=>intro s hs hm;exact hb s _ hs (fun s' h' hl=>ih s' h' (by omega))
 exact go fuel s0 h0 hf
theorem zhd {S R:Type} {body:(Int×S)→((Int×S)→Option R)→Option R} {fuel:Nat} {s0:S} {P:R→Prop} (n:Nat) (hf:n<fuel) (Inv:Nat→S→Prop) (h0:Inv 0 s0)
 (hb:∀ (i:Nat) s (K:(Int×S)→Option R),i≤n→Inv i s→(∀ s',i<n→Inv (i+1) s'→Wp (K ((i:Int)+1,s')) P)→Wp (body ((i:Int),s) K) P):Wp (loopGo body fuel (0,s0)) P:=by
 have go:∀ (f i:Nat) s,i≤n→n - i<f→Inv i s→Wp (loopGo body f ((i:Int),s)) P:=by
  intro f
  induction f with
  | zero=>intro i s _ h;omega
  | succ f ih=>intro i s hi hm hs;exact hb i s _ hi hs (fun s' hl h'=>ih (i+1) s' (by omega) (by omega) h')
 exact go fuel 0 s0 (by omega) (by omega) h0
theorem zn3 {R:Type} {body:Int→(Int→Option R)→Option R} {fuel:Nat} {P:R→Prop} (n:Nat) (hf:n<fuel) (Inv:Nat→Prop) (h0:Inv 0)
 (hb:∀ (i:Nat) (K:Int→Option R),i≤n→Inv i→(i<n→Inv (i+1)→Wp (K ((i:Int)+1)) P)→Wp (body (i:Int) K) P):Wp (loopGo body fuel 0) P:=by
 have go:∀ (f i:Nat),i≤n→n - i<f→Inv i→Wp (loopGo body f (i:Int)) P:=by
  intro f
  induction f with
  | zero=>intro i _ h;omega
  | succ f ih=>intro i hi hm hs;exact hb i _ hi hs (fun hl h'=>ih (i+1) (by omega) (by omega) h')
 exact go fuel 0 (by omega) (by omega) h0
theorem zqw {S R:Type} {body:(S×Int)→((S×Int)→Option R)→Option R} {fuel:Nat} {s0:S} {P:R→Prop} (n:Nat) (hf:n<fuel) (Inv:Nat→S→Prop) (h0:Inv 0 s0)
 (hb:∀ (i:Nat) s (K:(S×Int)→Option R),i≤n→Inv i s→(∀ s',i<n→Inv (i+1) s'→Wp (K (s',(i:Int)+1)) P)→Wp (body (s,(i:Int)) K) P):Wp (loopGo body fuel (s0,0)) P:=by
 have go:∀ (f i:Nat) s,i≤n→n - i<f→Inv i s→Wp (loopGo body f (s,(i:Int))) P:=by
  intro f
  induction f with
  | zero=>intro i s _ h;omega
  | succ f ih=>intro i s hi hm hs;exact hb i s _ hi hs (fun s' hl h'=>ih (i+1) s' (by omega) (by omega) h')
 exact go fuel 0 s0 (by omega) (by omega) h0
end Go.Sp
end
/- More rules for plain laws. No program in sight. -/
section
set_option linter.all false
namespace Go.Sp
open Go.Av
theorem zaj {R:Type} {n:Int} {x:Option R} {P:R→Prop} (h : -9223372036854775808≤n∧n≤9223372036854775807) (k:Wp x P):Wp (must (inI n) x) P:=zap h k
theorem zck {R:Type} {n b:Nat} {x:Option R} {P:R→Prop} (h:n * b≤140737488355328∧n≤9223372036854775807) (k:Wp x P):Wp (must (room n b) x) P:=zap h k
theorem zjS {S R:Type} [Inhabited S] {W:Bool} {x:Option S} {k:S→Option R} {P:R→Prop} {Q:S→Prop} (h:W=true→Wp x Q) (hk:∀ s,(W=true→Q s)→Wp (k s) P):Wp (zao (bif W then x else some default) k) P:=by
 cases W
 · exact hk _ (fun h=>by cases h)
 · exact wp_bind (h rfl) (fun s hs=>hk s (fun _=>hs))
end Go.Sp
end
/- Rules for plain laws, more of them. No program in sight. -/
section
set_option linter.all false
namespace Go.Sp
open Go.Av
theorem zli {R:Type} {body:Nat→Unit→(Unit→Option R)→Option R} {ex:Unit→Option R} {n:Nat} {P:R→Prop} (good:Nat→Prop)
 (hb:∀ (i:Nat) (K:Option R),i<n→(∀ j,j<i→good j)→(good i→Wp K P)→Wp (body i () (fun _=>K)) P) (he:(∀ j,j<n→good j)→Wp (ex ()) P):Wp (zas body ex n 0 ()) P:=by
 refine zeB (fun i _=>∀ j,j<i→good j) (fun j hj=>by omega) (fun i s K hi hI hK=>?_) (fun s hs=>he hs)
 have e:K=fun _=>K ():=funext fun u=>rfl
 rw [e]
 exact hb i (K ()) hi hI (fun g=>hK () (fun j hj=>by
  by_cases e:j=i
  · rw [e];exact g
  · exact hI j (by omega)))
theorem zqm {R:Type} {p:Prop} {b:Bool} {x y:Option R} {P:R→Prop} (h0:b=true→p) (h1:b=false→¬ p) (hx:p→Wp x P) (hy:¬ p→Wp y P):Wp (bif b then x else y) P:=
 zbw (fun h=>hx (h0 h)) (fun h=>hy (h1 h))
theorem zeW {R:Type} {c:Prop} [Decidable c] (h:c) (x:Option R):must c x=x:=if_pos h
theorem zkQ {T:Type} (l:List T) (i j:Nat) (x d:T) (hi:i<l.length):(l.set i x).getD j d=if j=i then x else l.getD j d:=by
 simp only [List.getD_eq_getElem?_getD]
 by_cases e:j=i
 · subst e;rw [List.getElem?_set_self hi,if_pos rfl];rfl
 · rw [List.getElem?_set_ne (fun h=>e h.symm),if_neg e]
theorem zoQ {T:Type} (l:List T) (x d:T) (i:Nat):(l++[x]).getD i d=if i=l.length then x else l.getD i d:=by
 simp only [List.getD_eq_getElem?_getD]
 rcases Nat.lt_trichotomy i l.length with h|h|h
 · rw [List.getElem?_append_left h,if_neg (by omega)]
 · subst h;simp
 · rw [if_neg (by omega),List.getElem?_eq_none (by simp;omega),List.getElem?_eq_none (by omega)]
theorem zb6 {T:Type} [Inhabited T] {l:List T} {i:Nat} (h:i<l.length):l.getD i default∈l:=by
 rw [List.getD_eq_getElem?_getD,List.getElem?_eq_getElem h];exact List.getElem_mem h
theorem zdR {T:Type} [Inhabited T] {l:List T} {x:T} (h:x∈l):∃ i,i<l.length∧l.getD i default=x:=by
 obtain ⟨i,hi,rfl⟩:=List.getElem_of_mem h
 exact ⟨i,hi,by rw [List.getD_eq_getElem?_getD,List.getElem?_eq_getElem hi];rfl⟩
theorem getD_take {T:Type} (l:List T) (n i:Nat) (d:T):(l.take n).getD i d=if i<n then l.getD i d else d:=by
 simp only [List.getD_eq_getElem?_getD,List.getElem?_take]
 split <;> rfl
theorem getD_drop {T:Type} (l:List T) (n i:Nat) (d:T):(l.drop n).getD i d=l.getD (n+i) d:=by
 simp only [List.getD_eq_getElem?_getD,List.getElem?_drop]
theorem zp4 {T:Type} [Inhabited T] {l r:List T} (hl:l.length=r.length) (h:∀ i,i<l.length→l.getD i default=r.getD i default):l=r:=by
 refine List.ext_getElem hl (fun i h1 h2=>?_)
 have:=h i h1
 rw [List.getD_eq_getElem?_getD,List.getD_eq_getElem?_getD,List.getElem?_eq_getElem h1,List.getElem?_eq_getElem h2] at this
 exact this
theorem znU {A:Type} {body:Nat→Unit→(Unit→Option (List A))→Option (List A)} {n:Nat} (W:Nat→Bool) (x:Nat→A)
 (hb:∀ (i:Nat) (r:Option (List A)),i<n→body i () (fun _=>r)=zkk (W i) (x i) r):zas body (fun _=>some []) n 0 ()=some (((List.range' 0 n).filter W).map x):=by
 have go:∀ m i,i+m=n→zas body (fun _=>some []) m i ()=some (((List.range' i m).filter W).map x):=by
  intro m
  induction m with
  | zero=>intro i _;rfl
  | succ m ih=>
   intro i hi
   have e:zas body (fun _=>some []) (m+1) i ()=body i () (fun u=>zas body (fun _=>some []) m (i+1) u):=rfl
   rw [e]
   have e2:(fun u=>zas body (fun _=>some ([]:List A)) m (i+1) u)=fun _=>some (((List.range' (i+1) m).filter W).map x):=by
    funext u;exact ih (i+1) (by omega)
   rw [e2,hb i _ (by omega),List.range'_succ,List.filter_cons]
   cases W i <;> rfl
 exact go n 0 (by omega)
end Go.Sp
end
/- Binary search, and insertion into a sorted list. No program in sight. -/
section
set_option linter.all false
namespace Go.Sp
open Go.Av
theorem zj9 {T:Type} (f:T→Int):∀ {a b:List T},a.Pairwise (fun x y=>f x<f y)→b.Pairwise (fun x y=>f x<f y)→(∀ z,z∈a↔z∈b)→a=b
 | [],[],_,_,_=>rfl
 | [],y::b,_,_,h=>by have:=(h y).2 (by simp);simp at this
 | x::a,[],_,_,h=>by have:=(h x).1 (by simp);simp at this
 | x::a,y::b,ha,hb,h=>by
  rw [List.pairwise_cons] at ha hb
  have hxy:x=y:=by
   rcases List.mem_cons.1 ((h x).1 (by simp)) with e|e
   · exact e
   · rcases List.mem_cons.1 ((h y).2 (by simp)) with e2|e2
     · exact e2.symm
     · have h1:=hb.1 x e;have h2:=ha.1 y e2;omega
  subst hxy
  congr 1
  refine zj9 f ha.2 hb.2 (fun z=>?_)
  constructor
  · intro hz
    rcases List.mem_cons.1 ((h z).1 (by simp [hz])) with e|e
    · have:=ha.1 z hz;rw [e] at this;omega
    · exact e
  · intro hz
    rcases List.mem_cons.1 ((h z).2 (by simp [hz])) with e|e
    · have:=hb.1 z hz;rw [e] at this;omega
    · exact e
theorem zkt {T:Type} [Inhabited T] (f:T→Int) {l:List T} (h:∀ i,0<i→i<l.length→f (l.getD (i - 1) default)<f (l.getD i default)):l.Pairwise (fun a b=>f a<f b):=by
 rw [List.pairwise_iff_getElem]
 intro i j hi hj hij
 have step:∀ k,i+1+k<l.length→f l[i]<f (l.getD (i+1+k) default):=by
  intro k
  induction k with
  | zero=>
   intro hk
   have:=h (i+1) (by omega) hk
   have e:l.getD (i+1 - 1) default=l[i]:=by simp [List.getElem?_eq_getElem hi]
   rw [e] at this;exact this
  | succ k ih=>
   intro hk
   have h1:=ih (by omega)
   have h2:=h (i+1+(k+1)) (by omega) hk
   have e:i+1+(k+1) - 1=i+1+k:=by omega
   rw [e] at h2;omega
 have:=step (j - i - 1) (by omega)
 have e:i+1+(j - i - 1)=j:=by omega
 rw [e] at this
 simpa [List.getElem?_eq_getElem hj] using this
theorem zhG {T:Type} [Inhabited T] {f:T→Int} {l:List T} (hs:l.Pairwise (fun a b=>f a<f b)) {i j:Nat} (hij:i<j) (hj:j<l.length):f (l.getD i default)<f (l.getD j default):=by
 have:=List.pairwise_iff_getElem.1 hs i j (by omega) hj hij
 simpa [List.getElem?_eq_getElem hj,List.getElem?_eq_getElem (show i<l.length by omega)] using this
end Go.Sp
end
/- slices.IndexFunc and slices.DeleteFunc, as they are printed. No program in sight. -/
section
set_option linter.all false
namespace Go.Sp
open Go.Av
set_option maxRecDepth 100000
theorem zeX {T:Type} [Inhabited T] {p:T→Option Bool} {q:T→Bool} (hp:∀ x,p x=some (q x)) (l:List T) :
 (zas (fun i1 (s1:Unit) k1=>zao (p (l.getD i1 default)) fun y3=>(bif y3 then some (i1:Int) else k1 ())) (fun (s1:Unit)=>some (-1)) l.length 0 ():Option Int)=some (match l.findIdx? q with|some i=>(i:Int)|none=>-1):=by
 refine (zli (P:=fun r=>r=(match l.findIdx? q with|some i=>(i:Int)|none=>-1)) (fun i=>q (l.getD i default)=false) (fun i K hi hb hK=>?_) (fun h1=>?_)).eq
 · rw [hp]
   refine zbw (fun h=>zam ?_) (fun h=>hK h)
   have:l.findIdx? q=some i:=by
    rw [List.findIdx?_eq_some_iff_getElem]
    refine ⟨hi,?_,fun j hj=>?_⟩
    · rw [List.getD_eq_getElem?_getD,List.getElem?_eq_getElem hi] at h;exact h
    · have:=hb j hj
      rw [List.getD_eq_getElem?_getD,List.getElem?_eq_getElem (by omega)] at this
      simpa using this
   rw [this]
 · refine zam ?_
   have:l.findIdx? q=none:=by
    rw [List.findIdx?_eq_none_iff]
    intro x hx
    obtain ⟨i,hi,rfl⟩:=zdR hx
    exact h1 i hi
   rw [this]
theorem zhi {T:Type} {l:List T} {i:Nat} {x:T} (h:i<l.length):(l.set i x).take (i+1)=l.take i++[x]:=by
 rw [List.take_add_one,List.getElem?_set_self h,List.take_set_of_le (Nat.le_refl _)];rfl
theorem zi9 {T:Type} [Inhabited T] (l:List T) (a m:Nat) (f:Nat→T) (h:a≤l.length):(zaE l a m f).take a=l.take a:=by
 refine zp4 (by simp [zaE]) (fun i hi=>?_)
 have hi':i<a:=by simp [zaE] at hi;omega
 rw [getD_take,getD_take,if_pos hi',if_pos hi']
 unfold zaE
 rw [List.getD_eq_getElem?_getD,List.getElem?_map,List.getElem?_range (by omega)]
 simp only [Option.map_some,Option.getD_some]
 rw [if_neg (by omega)]
theorem zhT {T:Type} [Inhabited T] {l:List T} {i:Nat} (h:i<l.length):l.drop i=l.getD i default::l.drop (i+1):=by
 rw [List.getD_eq_getElem?_getD,List.getElem?_eq_getElem h];exact List.drop_eq_getElem_cons h
theorem zi8 {T:Type} [Inhabited T] {l:List T} {i:Nat} (h:i<l.length):l.take (i+1)=l.take i++[l.getD i default]:=by
 rw [List.take_add_one,List.getD_eq_getElem?_getD,List.getElem?_eq_getElem h];rfl
theorem zfH {T:Type} [Inhabited T] (z:T) {p:T→Option Bool} {q:T→Bool} (hp:∀ x,p x=some (q x)) (l:List T) (fuel:Nat) (hf:l.length<fuel) (hl:l.length<9223372036854775807) :
 (zao (zas (fun i1 (s1:Unit) k1=>zao (p (l.getD i1 default)) fun y3=>(bif y3 then some (i1:Int) else k1 ())) (fun (s1:Unit)=>some (-1)) l.length 0 ():Option Int) fun y1=>(bif (decide (y1=(-1))) then some l else must (inI (y1+1)) <| (loopGo (fun (s5:Int×Int×(List T)) k5=>(bif (decide (s5.2.1<((s5.2.2.length:Nat):Int))) then must (0≤(s5.2.1:Int)∧(s5.2.1:Int)<((s5.2.2.length:Nat):Int)) <| zao (p (s5.2.2.getD (s5.2.1).toNat default)) fun y8=>(bif (!y8) then must (0≤(s5.1:Int)∧(s5.1:Int)<((s5.2.2.length:Nat):Int)) <| must (inI (s5.1+1)) <| must (inI (s5.2.1+1)) <| k5 ((s5.1+1),(s5.2.1+1),(s5.2.2.set (s5.1).toNat (s5.2.2.getD (s5.2.1).toNat default))) else must (inI (s5.2.1+1)) <| k5 (s5.1,(s5.2.1+1),s5.2.2)) else must (0<s5.2.2.length∧0≤(s5.1:Int)∧(s5.1:Int)≤((s5.2.2.length:Nat):Int)) <| must (0<(zaE s5.2.2 ((s5.1).toNat) (s5.2.2.length - (s5.1).toNat) (fun _=>z)).length∧0≤(s5.1:Int)∧(s5.1:Int)≤(((zaE s5.2.2 ((s5.1).toNat) (s5.2.2.length - (s5.1).toNat) (fun _=>z)).length:Nat):Int)) <| some ((zaE s5.2.2 ((s5.1).toNat) (s5.2.2.length - (s5.1).toNat) (fun _=>z)).take ((s5.1).toNat)))) fuel (y1,(y1+1),l))):Option (List T))=some (l.filter (fun x=>!q x)):=by
 rw [zeX hp l]
 refine Wp.eq (zau rfl ?_)
 cases hi:l.findIdx? q with
 | none=>
  rw [List.findIdx?_eq_none_iff] at hi
  refine za9 (by simp) (zam ?_)
  exact (List.filter_eq_self.2 (fun x hx=>by rw [hi x hx];rfl)).symm
 | some i=>
  rw [List.findIdx?_eq_some_iff_getElem] at hi
  obtain ⟨h1,h2,h3⟩:=hi
  refine zaU (by simp) (zaj (by simp only;omega) ?_)
  refine wp_loop (fun s=>∃ a b:Nat,s.1=(a:Int)∧s.2.1=(b:Int)∧a<b∧b≤l.length∧s.2.2.length=l.length∧s.2.2.take a=(l.take b).filter (fun x=>!q x)∧s.2.2.drop b=l.drop b) (fun s=>l.length - s.2.1.toNat) (by simp only;omega) ⟨i,i+1,rfl,by simp,by omega,by omega,rfl,?_,rfl⟩ ?_
  · rw [zi8 h1,List.filter_append]
    have e1:(l.take i).filter (fun x=>!q x)=l.take i:=List.filter_eq_self.2 (fun x hx=>by
     obtain ⟨j,hj,rfl⟩:=List.getElem_of_mem hx
     have hj':j<i:=by simp at hj;omega
     have:=h3 j hj'
     simp only [List.getElem_take]
     simpa using this)
    have e2:q (l.getD i default)=true:=by rw [List.getD_eq_getElem?_getD,List.getElem?_eq_getElem h1];exact h2
    rw [e1];simp [e2,-List.getD_eq_getElem?_getD]
  · rintro ⟨s1,s2,s3⟩ K ⟨a,b,rfl,rfl,hab,hb,hlen,ht,hd⟩ hK
    simp only at hK ht hd hlen ⊢
    refine zbM (fun hlt=>?_) (fun hge=>?_)
    · have hbl:b<l.length:=by omega
      refine zap (by omega) ?_
      rw [hp]
      simp only [Int.toNat_natCast]
      have ex:s3.getD b default=l.getD b default:=by
       have:=zhT (l:=s3) (i:=b) (by omega)
       rw [hd,zhT hbl] at this
       exact (List.cons.inj this).1.symm
      have hd1:s3.drop (b+1)=l.drop (b+1):=by
       have:=zhT (l:=s3) (i:=b) (by omega)
       rw [hd,zhT hbl] at this
       exact (List.cons.inj this).2.symm
      refine zau rfl ?_
      rw [ex]
      refine zbw (fun hq=>?_) (fun hq=>?_)
      · refine zap (by omega) (zaj (by omega) (zaj (by omega) ?_))
        refine hK _ ⟨a+1,b+1,by simp,by simp,by omega,by omega,by simp [hlen],?_,?_⟩ (by simp only;omega)
        · rw [zhi (by omega),ht,zi8 hbl,List.filter_append]
          simp only [Bool.not_eq_true'] at hq
          simp [hq,-List.getD_eq_getElem?_getD]
        · rw [List.drop_set_of_lt (by omega)];exact hd1
      · refine zaj (by omega) (hK _ ⟨a,b+1,rfl,by simp,by omega,by omega,hlen,?_,hd1⟩ (by simp only;omega))
        rw [ht,zi8 hbl,List.filter_append]
        simp only [Bool.not_eq_false'] at hq
        simp [hq,-List.getD_eq_getElem?_getD]
    · refine zap (by omega) (zap ?_ (zam ?_))
      · rw [zbP];omega
      · simp only [Int.toNat_natCast]
        rw [zi9 _ _ _ _ (by omega),ht,List.take_of_length_le (by omega)]
end Go.Sp
end
/- Plain laws, mantle: valid batches, mantles, burns, looks and wears, checked by both. No program in sight. -/
section
set_option linter.all false
namespace Go.Sp
open Go.Av
set_option maxRecDepth 100000
structure BatchOk (b:Batch):Prop where
 id:1≤b.Id∧b.Id≤99
 life:0≤b.Life.Lo∧b.Life.Lo≤b.Life.Hi∧b.Life.Hi≤1000000
structure ToldOk (s l n k u:Int):Prop where
 src:1≤s∧s≤99999
 lamp:1≤l∧l≤999
 night:0≤n∧n≤100000
 known:0≤k∧k≤100000
 til:u=0∨(k<u∧u≤100000)
structure MantleOk (m:Mantle):Prop where
 told:ToldOk m.Source m.Lamp m.Night m.Known m.Until
 batch:1≤m.Batch∧m.Batch≤99
structure BurnOk (b:Burn):Prop where
 told:ToldOk b.Source b.Lamp b.Night b.Known b.Until
 min:0≤b.Minutes.Lo∧b.Minutes.Lo≤b.Minutes.Hi∧b.Minutes.Hi≤1440
def zjP (l:Look):Prop:=ToldOk l.Source l.Lamp l.Night l.Known l.Until
theorem mwithin {a b c:Int}:zaJ a b c=(decide (b≤a) && decide (a≤c)):=rfl
theorem bif0 (b:Bool) {c:Int} (hc:c≠0):((bif b then c else 0)=0)↔b=false:=by cases b <;> simp [-List.getD_eq_getElem?_getD,hc]
theorem zjO (b:Bool) (c:Int):(bif b then c else 0)=0∨(bif b then c else 0)=c:=by cases b <;> simp [-List.getD_eq_getElem?_getD]
theorem zgJ {n k u:Int}:zaW n k u=true↔(0≤n∧n≤100000)∧(0≤k∧k≤100000)∧(u=0∨(k<u∧u≤100000)):=by
 simp only [zaW,zaM,mwithin,Bool.and_eq_true,Bool.or_eq_true,decide_eq_true_eq]
 omega
theorem zfA {b:Batch}:za1 b=0↔BatchOk b:=by
 unfold za1
 rw [bif0 _ (by decide)]
 simp only [zbp,mwithin,Bool.or_eq_false_iff,Bool.not_eq_false',Bool.and_eq_true,decide_eq_true_eq]
 exact ⟨fun h=>⟨h.1,by omega⟩,fun h=>⟨h.id,by have:=h.life;omega⟩⟩
theorem zei {m:Mantle}:zaQ m=0↔MantleOk m:=by
 unfold zaQ
 rw [bif0 _ (by decide)]
 simp only [zaS,zaG,mwithin,Bool.or_eq_false_iff,Bool.not_eq_false',Bool.and_eq_true,decide_eq_true_eq,zgJ]
 exact ⟨fun h=>⟨⟨h.1.1.1,h.1.1.2,h.2.1,h.2.2.1,h.2.2.2⟩,h.1.2⟩,fun h=>⟨⟨⟨h.told.src,h.told.lamp⟩,h.batch⟩,h.told.night,h.told.known,h.told.til⟩⟩
theorem zfj {m:Burn}:zaZ m=0↔BurnOk m:=by
 unfold zaZ
 rw [bif0 _ (by decide)]
 simp only [zaS,zaG,zbp,mwithin,Bool.or_eq_false_iff,Bool.not_eq_false',Bool.and_eq_true,decide_eq_true_eq,zgJ]
 exact ⟨fun h=>⟨⟨h.1.1.1,h.1.1.2,h.2.1,h.2.2.1,h.2.2.2⟩,by have:=h.1.2;omega⟩,fun h=>⟨⟨⟨h.told.src,h.told.lamp⟩,by have:=h.min;omega⟩,h.told.night,h.told.known,h.told.til⟩⟩
theorem zfi {m:Look}:zaR m=0↔zjP m:=by
 unfold zaR
 rw [bif0 _ (by decide)]
 simp only [zaS,zaG,mwithin,Bool.or_eq_false_iff,Bool.not_eq_false',Bool.and_eq_true,decide_eq_true_eq,zgJ]
 exact ⟨fun h=>⟨h.1.1,h.1.2,h.2.1,h.2.2.1,h.2.2.2⟩,fun h=>⟨⟨h.src,h.lamp⟩,h.night,h.known,h.til⟩⟩
theorem zju (s l n k u:Int):∃ b,zbe ⟨s,l,n,k,u⟩=some b∧(b=true↔ToldOk s l n k u):=by
 unfold zbe
 rw [zeW (fun h=>by
  simp only [zaq,zai,Bool.and_eq_true,decide_eq_true_eq] at h
  show inI (k+1)
  have:=h.1.2
  unfold inI;omega)]
 refine ⟨_,rfl,?_⟩
 simp only [zaq,zai,Bool.and_eq_true,Bool.or_eq_true,decide_eq_true_eq]
 exact ⟨fun h=>⟨h.1.1.1.1,h.1.1.1.2,h.1.1.2,h.1.2,by omega⟩,fun h=>⟨⟨⟨⟨h.src,h.lamp⟩,h.night⟩,h.known⟩,by have:=h.til;have:=h.known;omega⟩⟩
theorem zmg (b:Batch):zaz b=za1 b:=by
 have h:zaz b=0↔BatchOk b:=by
  unfold zaz
  rw [bif0 _ (by decide)]
  simp only [zai,Bool.or_eq_false_iff,Bool.not_eq_false',Bool.and_eq_true,decide_eq_true_eq,decide_eq_false_iff_not]
  exact ⟨fun h=>⟨h.1.1,by omega⟩,fun h=>⟨⟨h.id,by have:=h.life;omega⟩,by have:=h.life;omega⟩⟩
 rw [← zfA] at h
 have h1:=zjO (((!(zai b.Id 1 99)) || (!(zai b.Life.Lo 0 b.Life.Hi))) || (decide (1000000<b.Life.Hi))) 60
 have h2:=zjO ((!(zaJ b.Id 1 99)) || (!(zbp b.Life 1000000))) 60
 change zaz b=0∨zaz b=60 at h1
 change za1 b=0∨za1 b=60 at h2
 omega
theorem zlq (m:Mantle):zbf m=some (zaQ m):=by
 unfold zbf
 obtain ⟨b,e,hb⟩:=zju m.Source m.Lamp m.Night m.Known m.Until
 rw [e]
 have h2:=zjO ((((!(zaS m.Source)) || (!(zaG m.Lamp))) || (!(zaJ m.Batch 1 99))) || (!(zaW m.Night m.Known m.Until))) 61
 change zaQ m=0∨zaQ m=61 at h2
 refine (zbw (P:=(· = zaQ m)) (fun h=>zam ?_) (fun h=>zam ?_)).eq
 · have:¬ MantleOk m:=fun V=>by
    have h3:=hb.2 V.told
    have:=V.batch
    simp [-List.getD_eq_getElem?_getD,h3,zai] at h;omega
   rw [← zei] at this;omega
 · have:MantleOk m:=by
    simp only [Bool.or_eq_false_iff,Bool.not_eq_false',zai,Bool.and_eq_true,decide_eq_true_eq] at h
    exact ⟨hb.1 h.1,h.2⟩
   exact (zei.2 this).symm
theorem znC (m:Burn):zbu m=some (zaZ m):=by
 unfold zbu
 obtain ⟨b,e,hb⟩:=zju m.Source m.Lamp m.Night m.Known m.Until
 rw [e]
 have h2:=zjO ((((!(zaS m.Source)) || (!(zaG m.Lamp))) || (!(zbp m.Minutes 1440))) || (!(zaW m.Night m.Known m.Until))) 62
 change zaZ m=0∨zaZ m=62 at h2
 refine (zbw (P:=(· = zaZ m)) (fun h=>zam ?_) (fun h=>zam ?_)).eq
 · have:¬ BurnOk m:=fun V=>by
    have h3:=hb.2 V.told
    have:=V.min
    simp [-List.getD_eq_getElem?_getD,h3,zai] at h;omega
   rw [← zfj] at this;omega
 · have:BurnOk m:=by
    simp only [Bool.or_eq_false_iff,Bool.not_eq_false',zai,Bool.and_eq_true,decide_eq_true_eq,decide_eq_false_iff_not] at h
    exact ⟨hb.1 h.1.1,by omega⟩
   exact (zfj.2 this).symm
theorem znB (m:Look):zbt m=some (zaR m):=by
 unfold zbt
 obtain ⟨b,e,hb⟩:=zju m.Source m.Lamp m.Night m.Known m.Until
 rw [e]
 have h2:=zjO (((!(zaS m.Source)) || (!(zaG m.Lamp))) || (!(zaW m.Night m.Known m.Until))) 63
 change zaR m=0∨zaR m=63 at h2
 refine (zbw (P:=(· = zaR m)) (fun h=>zam ?_) (fun h=>zam ?_)).eq
 · have:¬ zjP m:=fun V=>by simp [-List.getD_eq_getElem?_getD,hb.2 V] at h
   rw [← zfi] at this;omega
 · have:zjP m:=hb.1 (by simpa [-List.getD_eq_getElem?_getD] using h)
   exact (zfi.2 this).symm
def zh2 {T:Type} [Inhabited T] (ok:T→Prop) (num:T→Int) (l:List T):Prop:=∀ i,i<l.length→ok (l.getD i default)∧(0<i→num (l.getD (i - 1) default)<num (l.getD i default))
theorem zg0 {T:Type} [Inhabited T] {chk num:T→Int} {ok:T→Prop} (hok:∀ x,chk x=0↔ok x) {l:List T} {p1:Int} (hl:l.length≤9223372036854775807) :
 Wp (zas (fun i1 (s1:Unit) k1=>zao ((fun x0=>some (chk x0)) (l.getD i1 default)) fun y3=>must ((((!(!decide (y3=0))) && (decide (0<(i1:Int))))=true→(inI ((i1:Int) - 1)))) <| must ((((!(!decide (y3=0))) && (decide (0<(i1:Int))))=true→(0≤(((i1:Int) - 1):Int)∧(((i1:Int) - 1):Int)<((l.length:Nat):Int)))) <| zao ((bif ((!(!decide (y3=0))) && (decide (0<(i1:Int)))) then (fun x0=>some (num x0)) (l.getD (((i1:Int) - 1)).toNat default) else some default)) fun y7=>zao ((bif ((!(!decide (y3=0))) && (decide (0<(i1:Int)))) then (fun x0=>some (num x0)) (l.getD i1 default) else some default)) fun y9=>(bif ((!decide (y3=0)) || ((decide (0<(i1:Int))) && (decide (y9≤y7)))) then some false else k1 ())) (fun (s1:Unit)=>some (decide (((l.length:Nat):Int)≤p1))) l.length 0 ():Option Bool)
  (fun b=>b=true↔zh2 ok num l∧(l.length:Int)≤p1):=by
 refine zli (fun i=>ok (l.getD i default)∧(0<i→num (l.getD (i - 1) default)<num (l.getD i default))) (fun i K hi _ hK=>?_) (fun h1=>zam ?_)
 · refine zau rfl ?_
   refine zap (fun _=>by unfold inI;omega) ?_
   refine zap (fun h=>by simp [-List.getD_eq_getElem?_getD] at h;omega) ?_
   have e:(((i:Int) - 1)).toNat=i - 1:=by omega
   rw [e]
   refine zjS (Q:=fun y=>y=num (l.getD (i - 1) default)) (fun _=>zam rfl) (fun y7 h7=>?_)
   refine zjS (Q:=fun y=>y=num (l.getD i default)) (fun _=>zam rfl) (fun y9 h9=>?_)
   by_cases hc:chk (l.getD i default)=0
   · by_cases h0:0<i
     · have hW:((!(!decide (chk (l.getD i default)=0))) && (decide (0<(i:Int))))=true:=by simp [-List.getD_eq_getElem?_getD,hc,h0]
       rw [h7 hW,h9 hW]
       refine zbw (fun hb=>zam ?_) (fun hb=>hK ⟨(hok _).1 hc,fun _=>?_⟩)
       · simp only [hc,decide_true,Bool.not_true,Bool.false_or,Bool.and_eq_true,decide_eq_true_eq] at hb
         refine ⟨fun h=>(by cases h),fun h=>?_⟩
         have:=(h.1 i hi).2 h0;omega
       · simp only [hc,decide_true,Bool.not_true,Bool.false_or,Bool.and_eq_false_iff,decide_eq_false_iff_not] at hb
         omega
     · refine zaU (by simp [-List.getD_eq_getElem?_getD,hc];omega) (hK ⟨(hok _).1 hc,fun h=>absurd h h0⟩)
   · refine za9 (by simp [-List.getD_eq_getElem?_getD,hc]) (zam ⟨fun h=>(by cases h),fun h=>absurd ((hok _).2 (h.1 i hi).1) hc⟩)
 · simp only [decide_eq_true_eq]
   exact ⟨fun h=>⟨h1,h⟩,fun h=>h.2⟩
structure WearOk (w:Wear):Prop where
 nb:w.Batches.length≤8
 nm:w.Mantles.length≤60
 nu:w.Burns.length≤60
 nl:w.Looks.length≤60
 ba:zh2 BatchOk (·.Id) w.Batches
 ma:zh2 MantleOk (·.Source) w.Mantles
 bu:zh2 BurnOk (·.Source) w.Burns
 lo:zh2 zjP (·.Source) w.Looks
 has:∀ i,i<w.Mantles.length→∃ j,j<w.Batches.length∧(w.Batches.getD j default).Id=(w.Mantles.getD i default).Batch
structure Fits (w:Wear):Prop where
 b:w.Batches.length≤4611686018427387904
 m:w.Mantles.length≤4611686018427387904
 u:w.Burns.length≤4611686018427387904
 l:w.Looks.length≤4611686018427387904
theorem zqL {w:Wear} {p q r s:Prop} (h:(w.Batches.length * 24≤140737488351232∧p)∧(w.Mantles.length * 48≤140737488351232∧q)∧(w.Burns.length * 56≤140737488351232∧r)∧(w.Looks.length * 48≤140737488351232∧s)):Fits w:=⟨by have:=h.1.1;omega,by have:=h.2.1.1;omega,by have:=h.2.2.1.1;omega,by have:=h.2.2.2.1;omega⟩
theorem WearOk.fits {w:Wear} (h:WearOk w):Fits w:=⟨by have:=h.nb;omega,by have:=h.nm;omega,by have:=h.nu;omega,by have:=h.nl;omega⟩
def zc5 (w:Wear) (id:Int):Int:=match w.Batches.findIdx? (fun b=>decide (b.Id=id)) with
 | some i=>(i:Int)
 | none=>-1
theorem zir (w:Wear) (id:Int):zb7 w id=some (zc5 w id):=by
 unfold zb7 zcl
 rw [zeX (p:=fun x0=>some (zco x0 id)) (q:=fun b=>decide (b.Id=id)) (fun x=>rfl)]
 rfl
theorem zfq {w:Wear} {id:Int}:zc5 w id<0↔¬ ∃ j,j<w.Batches.length∧(w.Batches.getD j default).Id=id:=by
 unfold zc5
 cases h:w.Batches.findIdx? (fun b=>decide (b.Id=id)) with
 | none=>
  rw [List.findIdx?_eq_none_iff] at h
  simp only [Int.reduceNeg,Int.reduceLT,true_iff]
  rintro ⟨j,hj,e⟩
  have:=h _ (zb6 hj)
  simp [-List.getD_eq_getElem?_getD,e] at this
 | some i=>
  rw [List.findIdx?_eq_some_iff_getElem] at h
  obtain ⟨h1,h2,h3⟩:=h
  refine ⟨fun h=>by simp [-List.getD_eq_getElem?_getD] at h;omega,fun h=>absurd ⟨i,h1,?_⟩ h⟩
  rw [List.getD_eq_getElem?_getD,List.getElem?_eq_getElem h1]
  simpa [-List.getD_eq_getElem?_getD] using h2
theorem zl0 (w:Wear) (id:Int):zc5 w id<(w.Batches.length:Int):=by
 unfold zc5
 cases h:w.Batches.findIdx? (fun b=>decide (b.Id=id)) with
 | none=>simp [-List.getD_eq_getElem?_getD];omega
 | some i=>
  rw [List.findIdx?_eq_some_iff_getElem] at h
  obtain ⟨h1,h2,h3⟩:=h
  simp [-List.getD_eq_getElem?_getD];omega
theorem zl1 {w:Wear} {id:Int} (h:0≤zc5 w id):(w.Batches.getD (zc5 w id).toNat default).Id=id:=by
 unfold zc5 at h ⊢
 cases h':w.Batches.findIdx? (fun b=>decide (b.Id=id)) with
 | none=>rw [h'] at h;simp [-List.getD_eq_getElem?_getD] at h
 | some i=>
  rw [List.findIdx?_eq_some_iff_getElem] at h'
  obtain ⟨h1,h2,h3⟩:=h'
  simp only [Int.toNat_natCast]
  rw [List.getD_eq_getElem?_getD,List.getElem?_eq_getElem h1]
  simpa [-List.getD_eq_getElem?_getD] using h2
theorem zh2.sorted {T:Type} [Inhabited T] {ok:T→Prop} {num:T→Int} {l:List T} (h:zh2 ok num l):l.Pairwise (fun a b=>num a<num b):=zkt num (fun i h0 hi=>(h i hi).2 h0)
theorem zh2.ok {T:Type} [Inhabited T] {ok:T→Prop} {num:T→Int} {l:List T} (h:zh2 ok num l) {x:T} (hx:x∈l):ok x:=by
 obtain ⟨i,hi,rfl⟩:=zdR hx
 exact (h i hi).1
theorem zh2.inj {T:Type} [Inhabited T] {ok:T→Prop} {num:T→Int} {l:List T} (h:zh2 ok num l) {i j:Nat} (hi:i<l.length) (hj:j<l.length) (e:num (l.getD i default)=num (l.getD j default)):i=j:=by
 rcases Nat.lt_trichotomy i j with h1|h1|h1
 · have:=zhG h.sorted h1 hj;omega
 · exact h1
 · have:=zhG h.sorted h1 hi;omega
theorem zly {w:Wear} (hf:Fits w):Wp (zb8 w) (fun r=>(WearOk w∧r=0)∨(¬ WearOk w∧r=64)):=by
 unfold zb8
 have a1:=zg0 (chk:=za1) (num:=zcW) (fun _=>zfA) (l:=w.Batches) (p1:=8) (by have:=hf.b;omega)
 have a2:=zg0 (chk:=zaQ) (num:=zcV) (fun _=>zei) (l:=w.Mantles) (p1:=60) (by have:=hf.m;omega)
 have a3:=zg0 (chk:=zaZ) (num:=zcU) (fun _=>zfj) (l:=w.Burns) (p1:=60) (by have:=hf.u;omega)
 have a4:=zg0 (chk:=zaR) (num:=zdh) (fun _=>zfi) (l:=w.Looks) (p1:=60) (by have:=hf.l;omega)
 refine wp_bind (x:=zcB w.Batches 8 _ _) a1 (fun y1 h1=>?_)
 refine wp_bind (x:=zcv w.Mantles 60 _ _) a2 (fun y3 h3=>?_)
 refine wp_bind (x:=zcM w.Burns 60 _ _) a3 (fun y5 h5=>?_)
 refine zjS (Q:=fun y=>y=true↔zh2 zjP (·.Source) w.Looks∧(w.Looks.length:Int)≤60) (fun _=>a4) (fun y7 h7=>?_)
 refine zjS (Q:=fun y=>y=false↔∀ i,i<w.Mantles.length→∃ j,j<w.Batches.length∧(w.Batches.getD j default).Id=(w.Mantles.getD i default).Batch) (fun _=>?_) (fun y9 h9=>?_)
 · unfold zbA zbm
   rw [zeX (p:=fun x0=>zcT x0 w) (q:=fun m=>decide (zc5 w m.Batch<0)) (fun x=>by
    unfold zcT;rw [zir];rfl)]
   refine zau rfl (zam ?_)
   cases h:w.Mantles.findIdx? (fun m=>decide (zc5 w m.Batch<0)) with
   | none=>
    rw [List.findIdx?_eq_none_iff] at h
    refine ⟨fun _ i hi=>?_,fun _=>rfl⟩
    have:=h _ (zb6 hi)
    simp only [decide_eq_false_iff_not,zfq,Classical.not_not] at this
    exact this
   | some i=>
    rw [List.findIdx?_eq_some_iff_getElem] at h
    obtain ⟨k1,k2,k3⟩:=h
    refine ⟨fun e=>(by simp [-List.getD_eq_getElem?_getD] at e),fun e=>?_⟩
    have:=e i k1
    rw [List.getD_eq_getElem?_getD (l:=w.Mantles),List.getElem?_eq_getElem k1] at this
    simp only [decide_eq_true_eq,zfq] at k2
    exact absurd this k2
 · refine zbw (fun hb=>zam (.inr ⟨fun V=>?_,rfl⟩)) (fun hb=>zam (.inl ⟨?_,rfl⟩))
   · have e1:=h1.2 ⟨V.ba,by have:=V.nb;omega⟩
     have e3:=h3.2 ⟨V.ma,by have:=V.nm;omega⟩
     have e5:=h5.2 ⟨V.bu,by have:=V.nu;omega⟩
     have e7:=(h7 (by simp [-List.getD_eq_getElem?_getD,e1,e3,e5])).2 ⟨V.lo,by have:=V.nl;omega⟩
     have e9:=(h9 (by simp [-List.getD_eq_getElem?_getD,e1,e3,e5,e7])).2 V.has
     simp [-List.getD_eq_getElem?_getD,e1,e3,e5,e7,e9] at hb
   · simp only [Bool.or_eq_false_iff,Bool.not_eq_false'] at hb
     obtain ⟨⟨⟨⟨e1,e3⟩,e5⟩,e7⟩,e9⟩:=hb
     have f7:=(h7 (by simp [-List.getD_eq_getElem?_getD,e1,e3,e5])).1 e7
     have f9:=(h9 (by simp [-List.getD_eq_getElem?_getD,e1,e3,e5,e7])).1 e9
     have f1:=h1.1 e1
     have f3:=h3.1 e3
     have f5:=h5.1 e5
     exact ⟨by omega,by omega,by omega,by omega,f1.1,f3.1,f5.1,f7.1,f9⟩
theorem zjo {w:Wear} (h:WearOk w):zb8 w=some 0:=by
 obtain ⟨r,e,h1|h1⟩:=zly h.fits
 · rw [e,h1.2]
 · exact absurd h h1.1
theorem znK {w:Wear} (hf:Fits w) (h:¬ WearOk w):zb8 w=some 64:=by
 obtain ⟨r,e,h1|h1⟩:=zly hf
 · exact absurd h1.1 h
 · rw [e,h1.2]
end Go.Sp
end
/- Plain laws, mantle: the document's check; one look more, by both; MantleChecks. No program in sight. -/
section
set_option linter.all false
namespace Go.Sp
open Go.Av
set_option maxRecDepth 100000
theorem zhh {R:Type} {body:Int→(Int→Option R)→Option R} {fuel:Nat} {P:R→Prop} {n:Nat} (hf:n<fuel) (good:Nat→Prop)
 (hb:∀ (i:Nat) (K:Int→Option R),i<n→(∀ j,j<i→good j)→(good i→Wp (K ((i:Int)+1)) P)→Wp (body (i:Int) K) P) (he:(∀ j,j<n→good j)→∀ K,Wp (body (n:Int) K) P):Wp (loopGo body fuel 0) P:=by
 refine zn3 n hf (fun i=>∀ j,j<i→good j) (fun j hj=>by omega) (fun i K hi hI hK=>?_)
 by_cases e:i=n
 · subst e;exact he hI K
 · exact hb i K (by omega) hI (fun g=>hK (by omega) (fun j hj=>by
    by_cases e:j=i
    · rw [e];exact g
    · exact hI j (by omega)))
theorem zl6 {R:Type} {P:R→Prop} {i n:Nat} {c0 x y:Int} {bad ok:Option R} (hi:i<n) (hn:n≤60)
 (hbad:¬ (c0=0∧(0<i→x<y))→Wp bad P) (hok:c0=0→(0<i→x<y)→Wp ok P) :
 Wp (must ((((!(!decide (c0=0))) && (decide (0<(i:Int))))=true→(inI ((i:Int) - 1)))) <| must ((((!(!decide (c0=0))) && (decide (0<(i:Int))))=true→(0≤(((i:Int) - 1):Int)∧(((i:Int) - 1):Int)<((n:Nat):Int)))) <| must ((((!(!decide (c0=0))) && (decide (0<(i:Int))))=true→(0≤(i:Int)∧(i:Int)<((n:Nat):Int)))) <| (bif ((!decide (c0=0)) || ((decide (0<(i:Int))) && (decide (y≤x)))) then bad else must (inI ((i:Int)+1)) <| ok)) P:=by
 refine zap (fun _=>by unfold inI;omega) ?_
 refine zap (fun h=>by simp [-List.getD_eq_getElem?_getD] at h;omega) ?_
 refine zap (fun h=>by omega) ?_
 refine zbw (fun h=>hbad ?_) (fun h=>zap (by unfold inI;omega) ?_)
 · simp only [Bool.or_eq_true,Bool.not_eq_true',decide_eq_false_iff_not,Bool.and_eq_true,decide_eq_true_eq] at h
   rintro ⟨h1,h2⟩
   rcases h with h|h
   · exact h h1
   · have:=h2 (by omega);omega
 · simp only [Bool.or_eq_false_iff,Bool.not_eq_false',decide_eq_true_eq,Bool.and_eq_false_iff,decide_eq_false_iff_not] at h
   exact hok h.1 (fun h0=>by rcases h.2 with h2|h2 <;> omega)
theorem zmv {fuel:Nat} {w:Wear} (hn:w.Batches.length≤8) (hf:100<fuel) (id:Int):Wp (zbE fuel w id) (fun b=>b=true↔∃ j,j<w.Batches.length∧(w.Batches.getD j default).Id=id):=by
 unfold zbE
 refine zhh (n:=w.Batches.length) (by omega) (fun i=>(w.Batches.getD i default).Id≠id) (fun i K hi _ hK=>?_) (fun h K=>?_)
 · refine za9 (by simp [-List.getD_eq_getElem?_getD];omega) (zap (by omega) ?_)
   simp only [Int.toNat_natCast]
   exact zbM (fun h=>zam ⟨fun _=>⟨i,hi,h⟩,fun _=>rfl⟩) (fun h=>zap (by unfold inI;omega) (hK h))
 · refine zaU (by simp [-List.getD_eq_getElem?_getD]) (zam ⟨fun h=>(by cases h),fun ⟨j,hj,e⟩=>absurd e (h j hj)⟩)
theorem zlp {w:Wear} {fuel:Nat} (hfu:100<fuel):Wp (za7 fuel w) (fun r=>(WearOk w∧r=0)∨(¬ WearOk w∧r=64)):=by
 unfold za7
 refine zbw (fun hb=>zam (.inr ⟨fun V=>?_,rfl⟩)) (fun hb=>?_)
 · have:=V.nb;have:=V.nm;have:=V.nu;have:=V.nl
   simp [-List.getD_eq_getElem?_getD] at hb;omega
 simp only [Bool.or_eq_false_iff,decide_eq_false_iff_not] at hb
 obtain ⟨⟨⟨n1,n2⟩,n3⟩,n4⟩:=hb
 refine zhh (n:=w.Batches.length) (by omega) (fun i=>BatchOk (w.Batches.getD i default)∧(0<i→(w.Batches.getD (i - 1) default).Id<(w.Batches.getD i default).Id)) (fun i K hi _ hK=>?_) (fun a1 K=>zaU (by simp [-List.getD_eq_getElem?_getD]) ?_)
 · refine za9 (by simp [-List.getD_eq_getElem?_getD];omega) (zap (by omega) ?_)
   have e:(((i:Int) - 1)).toNat=i - 1:=by omega
   simp only [Int.toNat_natCast,e,zmg]
   refine zl6 hi (by omega) (fun h=>zam (.inr ⟨fun V=>h ?_,rfl⟩)) (fun h1 h2=>hK ⟨zfA.1 h1,h2⟩)
   exact ⟨zfA.2 (V.ba i hi).1,(V.ba i hi).2⟩
 refine zhh (n:=w.Mantles.length) (by omega) (fun i=>(MantleOk (w.Mantles.getD i default)∧(0<i→(w.Mantles.getD (i - 1) default).Source<(w.Mantles.getD i default).Source))∧∃ j,j<w.Batches.length∧(w.Batches.getD j default).Id=(w.Mantles.getD i default).Batch) (fun i K hi _ hK=>?_) (fun a2 K=>zaU (by simp [-List.getD_eq_getElem?_getD]) ?_)
 · refine za9 (by simp [-List.getD_eq_getElem?_getD];omega) (zap (by omega) ?_)
   have e:(((i:Int) - 1)).toNat=i - 1:=by omega
   simp only [Int.toNat_natCast,e]
   refine zau (zlq _) ?_
   refine zap (fun h=>by omega) ?_
   refine zjS (fun _=>zmv (by omega) hfu _) (fun y16 h16=>?_)
   refine zap (fun _=>by unfold inI;omega) ?_
   refine zap (fun h=>by simp [-List.getD_eq_getElem?_getD] at h;omega) ?_
   refine zap (fun h=>by omega) ?_
   refine zbw (fun h=>zam (.inr ⟨fun V=>?_,rfl⟩)) (fun h=>zap (by unfold inI;omega) (hK ?_))
   · have h3:=zei.2 (V.ma i hi).1
     have h4:=(h16 (by simp [-List.getD_eq_getElem?_getD,h3])).2 (V.has i hi)
     simp only [h3,h4,decide_true,Bool.not_true,Bool.or_false,Bool.false_or,Bool.and_eq_true,decide_eq_true_eq] at h
     have:(w.Mantles.getD (i - 1) default).Source<(w.Mantles.getD i default).Source:=(V.ma i hi).2 (by omega)
     omega
   · simp only [Bool.or_eq_false_iff,Bool.not_eq_false',decide_eq_true_eq,Bool.and_eq_false_iff,decide_eq_false_iff_not] at h
     exact ⟨⟨zei.1 h.1.1,fun h0=>by rcases h.2 with h2|h2 <;> omega⟩,(h16 (by simp [-List.getD_eq_getElem?_getD,h.1.1])).1 h.1.2⟩
 refine zhh (n:=w.Burns.length) (by omega) (fun i=>BurnOk (w.Burns.getD i default)∧(0<i→(w.Burns.getD (i - 1) default).Source<(w.Burns.getD i default).Source)) (fun i K hi _ hK=>?_) (fun a3 K=>zaU (by simp [-List.getD_eq_getElem?_getD]) ?_)
 · refine za9 (by simp [-List.getD_eq_getElem?_getD];omega) (zap (by omega) ?_)
   have e:(((i:Int) - 1)).toNat=i - 1:=by omega
   simp only [Int.toNat_natCast,e]
   refine zau (znC _) ?_
   refine zl6 hi (by omega) (fun h=>zam (.inr ⟨fun V=>h ?_,rfl⟩)) (fun h1 h2=>hK ⟨zfj.1 h1,h2⟩)
   exact ⟨zfj.2 (V.bu i hi).1,(V.bu i hi).2⟩
 refine zhh (n:=w.Looks.length) (by omega) (fun i=>zjP (w.Looks.getD i default)∧(0<i→(w.Looks.getD (i - 1) default).Source<(w.Looks.getD i default).Source)) (fun i K hi _ hK=>?_) (fun a4 K=>zaU (by simp [-List.getD_eq_getElem?_getD]) ?_)
 · refine za9 (by simp [-List.getD_eq_getElem?_getD];omega) (zap (by omega) ?_)
   have e:(((i:Int) - 1)).toNat=i - 1:=by omega
   simp only [Int.toNat_natCast,e]
   refine zau (znB _) ?_
   refine zl6 hi (by omega) (fun h=>zam (.inr ⟨fun V=>h ?_,rfl⟩)) (fun h1 h2=>hK ⟨zfi.1 h1,h2⟩)
   exact ⟨zfi.2 (V.lo i hi).1,(V.lo i hi).2⟩
 exact zam (.inl ⟨⟨by omega,by omega,by omega,by omega,a1,fun i hi=>(a2 i hi).1,a3,a4,fun i hi=>(a2 i hi).2⟩,rfl⟩)
theorem zjf {w:Wear} {fuel:Nat} (hfu:100<fuel) (h:WearOk w):za7 fuel w=some 0:=by
 obtain ⟨r,e,h1|h1⟩:=zlp (w:=w) hfu
 · rw [e,h1.2]
 · exact absurd h h1.1
theorem znA {w:Wear} {fuel:Nat} (hfu:100<fuel) (h:¬ WearOk w):za7 fuel w=some 64:=by
 obtain ⟨r,e,h1|h1⟩:=zlp (w:=w) hfu
 · exact absurd h1.1 h
 · rw [e,h1.2]
end Go.Sp
end
/- Plain laws, mantle: the chapter's examples. -/
section
set_option linter.all false
namespace Go.Sp
open Go.Av
theorem zn8:zdU 20000=some true:=by kernel_rfl
end Go.Sp
end
/- Plain laws, mantle: one look more, by both; MantleChecks. No program in sight. -/
section
set_option linter.all false
namespace Go.Sp
open Go.Av
set_option maxRecDepth 100000
theorem cmpI (a b:Int):zbv a b=if a<b then -1 else if b<a then 1 else 0:=by
 unfold zbv cmp_isNaN_int
 by_cases h1:a<b
 · simp [-List.getD_eq_getElem?_getD,h1]
 · by_cases h2:b<a <;> simp [-List.getD_eq_getElem?_getD,h1,h2]
structure InsAt (l:List Look) (x:Look) (k:Nat):Prop where
 le:k≤l.length
 lo:∀ i,i<k→(l.getD i default).Source<x.Source
 hi:∀ i,k≤i→i<l.length→¬ (l.getD i default).Source<x.Source
def zpc:Wear:=⟨[],[],[],[]⟩
end Go.Sp
end
/- Plain laws: slices.SortStableFunc on ints ends, and what it leaves is a rearrangement. No program in sight. -/
section
set_option linter.all false
namespace Go.Sp
open Go.Av
set_option maxRecDepth 100000
theorem swap_perm {l s:List Int} (h:s.Perm l) {i j:Int} (hi:0≤i∧i<(s.length:Int)) (hj:0≤j∧j<(s.length:Int)) :
 ((s.set i.toNat (s.getD j.toNat default)).set j.toNat (s.getD i.toNat default)).Perm l:=by
 have h1:i.toNat<s.length:=by omega
 have h2:j.toNat<s.length:=by omega
 rw [List.getD_eq_getElem?_getD,List.getElem?_eq_getElem h2,List.getD_eq_getElem?_getD,List.getElem?_eq_getElem h1]
 exact (List.set_set_perm h1 h2).trans h
theorem half {x:Int} (h:0≤x):Int.fdiv x (2 ^ (1:Int).toNat)=x / 2:=by
 rw [show (1:Int).toNat=1 from rfl,Int.fdiv_eq_ediv_of_nonneg _ (by decide)];rfl
theorem zjn {l s:List Int} (h:s.Perm l) {i:Nat} (hi:i<s.length):s.getD i default∈l:=h.mem_iff.1 (zb6 hi)
def Cmp (l:List Int) (c:Int→Int→Option Int):Prop:=∀ a∈l,∀ b∈l,∃ r,c a b=some r
theorem Cmp.perm {l s:List Int} {c:Int→Int→Option Int} (H:Cmp l c) (h:s.Perm l):Cmp s c:=fun a ha b hb=>H a (h.mem_iff.1 ha) b (h.mem_iff.1 hb)
theorem ziE {fuel:Nat} (hf:1000≤fuel) {l:List Int} (hl:l.length≤100) {c:Int→Int→Option Int} (H:Cmp l c) {a b:Int} (ha:0≤a∧a≤1000) (hb:b≤(l.length:Int)) :
 Wp (zaN fuel l a b c) (fun r=>r.Perm l):=by
 unfold zaN
 refine zaj (by omega) ?_
 refine wp_loop (fun s=>a<s.1∧s.2.Perm l) (fun s=>(b - s.1).toNat) (by simp only;omega) ⟨by simp only;omega,.refl _⟩ (fun s K hI hK=>?_)
 obtain ⟨i,s⟩:=s
 obtain ⟨h1,h2⟩:=hI
 simp only at h1 h2 hK ⊢
 refine zbM (fun hlt=>?_) (fun _=>zam h2)
 refine wp_loop (fun t=>a≤t.1∧t.1≤i∧t.2.Perm l) (fun t=>(t.1 - a).toNat) (by simp only;omega) ⟨by simp only;omega,by simp only;omega,h2⟩ (fun t K2 hI2 hK2=>?_)
 obtain ⟨j,t⟩:=t
 obtain ⟨g1,g2,g3⟩:=hI2
 simp only at g1 g2 g3 hK2 ⊢
 have hlen:=g3.length_eq
 refine zap (fun h=>by have:=of_decide_eq_true h;omega) (zap (fun h=>by unfold inI;omega) (zap (fun h=>by have:=of_decide_eq_true h;omega) ?_))
 refine zjS (Q:=fun _=>True) (fun h=>?_) (fun y _=>?_)
 · have:=of_decide_eq_true h
   obtain ⟨r,e⟩:=H _ (zjn g3 (i:=j.toNat) (by omega)) _ (zjn g3 (i:=(j - 1).toNat) (by omega))
   exact ⟨r,e,trivial⟩
 refine zbw (fun h=>?_) (fun h=>zaj (by omega) (hK _ ⟨by simp only;omega,g3⟩ (by simp only;omega)))
 simp only [Bool.and_eq_true,decide_eq_true_eq] at h
 refine zaj (by omega) (zaj (by omega) (zap (by omega) (zap (by omega) (zap (by omega) (zap (by rw [List.length_set];omega) (zaj (by omega) ?_))))))
 exact hK2 _ ⟨by simp only;omega,by simp only;omega,swap_perm g3 (by omega) (by omega)⟩ (by simp only;omega)
theorem zf1 {fuel:Nat} (hf:1000≤fuel) {l:List Int} (hl:l.length≤100) {c:Int→Int→Option Int} {a b n:Int} (ha:0≤a) (hb:0≤b) (han:a+n≤(l.length:Int)) (hbn:b+n≤(l.length:Int)) :
 Wp (zaO fuel l a b n c) (fun r=>r.Perm l):=by
 unfold zaO
 refine wp_loop (fun s=>0≤s.1∧s.2.Perm l) (fun s=>(n - s.1).toNat) (by simp only;omega) ⟨by simp [-List.getD_eq_getElem?_getD],.refl _⟩ (fun s K hI hK=>?_)
 obtain ⟨i,s⟩:=s
 obtain ⟨h1,h2⟩:=hI
 simp only at h1 h2 hK ⊢
 have hlen:=h2.length_eq
 refine zbM (fun hlt=>?_) (fun _=>zam h2)
 refine zaj (by omega) (zaj (by omega) (zaj (by omega) (zap (by omega) (zaj (by omega) (zap (by omega) (zap (by omega) (zap (by rw [List.length_set];omega) (zaj (by omega) ?_))))))))
 exact hK _ ⟨by simp only;omega,swap_perm h2 (by omega) (by omega)⟩ (by simp only;omega)
theorem zog {fuel:Nat} (hf:1000≤fuel) {l:List Int} (hl:l.length≤100) {c:Int→Int→Option Int} {a m b:Int} (ha:0≤a) (ham:a<m) (hmb:m<b) (hb:b≤(l.length:Int)) :
 Wp (zbc fuel l a m b c) (fun r=>r.Perm l):=by
 unfold zbc
 refine zaj (by omega) (zaj (by omega) ?_)
 refine wp_loop (fun s=>1≤s.1∧s.1≤m - a∧1≤s.2.1∧s.2.1≤b - m∧s.2.2.Perm l) (fun s=>(s.1+s.2.1).toNat) (by simp only;omega) ⟨by simp only;omega,by simp only;omega,by simp only;omega,by simp only;omega,.refl _⟩ (fun s K hI hK=>?_)
 obtain ⟨i,j,s⟩:=s
 obtain ⟨h1,h2,h3,h4,h5⟩:=hI
 simp only at h1 h2 h3 h4 h5 hK ⊢
 have hlen:=h5.length_eq
 refine zeV (fun hne=>?_) (fun he=>?_)
 · refine zbM (fun hlt=>?_) (fun hge=>?_)
   · refine zaj (by omega) (wp_bind (zf1 hf (by omega) (by omega) (by omega) (by omega) (by omega)) (fun y hy=>zap hy.length_eq (zaj (by omega) (hK _ ⟨by simp only;omega,by simp only;omega,by simp only;omega,by simp only;omega,hy.trans h5⟩ (by simp only;omega)))))
   · refine zaj (by omega) (zaj (by omega) (zaj (by omega) (wp_bind (zf1 hf (by omega) (by omega) (by omega) (by omega) (by omega)) (fun y hy=>zap hy.length_eq (zaj (by omega) (hK _ ⟨by simp only;omega,by simp only;omega,by simp only;omega,by simp only;omega,hy.trans h5⟩ (by simp only;omega)))))))
 · exact zaj (by omega) (wp_bind (zf1 hf (by omega) (by omega) (by omega) (by omega) (by omega)) (fun y hy=>zam (hy.trans h5)))
theorem zfs {fuel:Nat} (hf:1000≤fuel) {c:Int→Int→Option Int}:∀ (n:Nat) {l:List Int},l.length≤100→Cmp l c→∀ {a m b:Int},0≤a→a<m→m<b→b≤(l.length:Int)→(b - a).toNat<n →
 Wp (zaP fuel n l a m b c) (fun r=>r.Perm l)
 | 0,l,_,_,a,m,b,_,_,_,_,hn=>absurd hn (Nat.not_lt_zero _)
 | n+1,l,hl,H,a,m,b,ha,ham,hmb,hb,hn=>by
  show Wp (za3 fuel (zaP fuel n) l a m b c) _
  unfold za3
  have hc:∀ i j:Int,0≤i→i<(l.length:Int)→0≤j→j<(l.length:Int)→Wp (c (l.getD i.toNat default) (l.getD j.toNat default)) (fun _=>True):=fun i j h1 h2 h3 h4=>by
   obtain ⟨r,e⟩:=H _ (zb6 (l:=l) (i:=i.toNat) (by omega)) _ (zb6 (l:=l) (i:=j.toNat) (by omega))
   exact ⟨r,e,trivial⟩
  refine zaj (by omega) ?_
  refine zbM (fun e1=>?_) (fun e1=>?_)
  · refine wp_loop (fun s=>m≤s.1∧s.1≤s.2∧s.2≤b) (fun s=>(s.2 - s.1).toNat) (by simp only;omega) ⟨by simp only;omega,by simp only;omega,by simp [-List.getD_eq_getElem?_getD]⟩ (fun s K hI hK=>?_)
    obtain ⟨i,j⟩:=s
    obtain ⟨h1,h2,h3⟩:=hI
    simp only at h1 h2 h3 hK ⊢
    refine zbM (fun hlt=>?_) (fun hge=>?_)
    · rw [half (by omega)]
      refine zaj (by omega) (zap (by unfold inU;omega) (zaj (by omega) (zap (by omega) (zap (by omega) (wp_bind (hc _ _ (by omega) (by omega) (by omega) (by omega)) (fun y _=>?_))))))
      refine zbM (fun _=>zaj (by omega) (hK _ ⟨by simp only;omega,by simp only;omega,by simp only;omega⟩ (by simp only;omega))) (fun _=>hK _ ⟨by simp only;omega,by simp only;omega,by simp only;omega⟩ (by simp only;omega))
    · refine wp_loop (fun s=>0≤s.1∧s.2.Perm l) (fun s=>(b - s.1).toNat) (by simp only;omega) ⟨by simp only;omega,.refl _⟩ (fun s K2 hI2 hK2=>?_)
      obtain ⟨k,s⟩:=s
      obtain ⟨g1,g2⟩:=hI2
      simp only at g1 g2 hK2 ⊢
      have hlen:=g2.length_eq
      refine zaj (by omega) (zbM (fun hk=>?_) (fun _=>zam g2))
      refine zaj (by omega) (zaj (by omega) (zap (by omega) (zap (by omega) (zap (by omega) (zap (by rw [List.length_set];omega) (zaj (by omega) ?_))))))
      exact hK2 _ ⟨by simp only;omega,swap_perm g2 (by omega) (by omega)⟩ (by simp only;omega)
  refine zaj (by omega) ?_
  refine zbM (fun e2=>?_) (fun e2=>?_)
  · refine wp_loop (fun s=>a≤s.1∧s.1≤s.2∧s.2≤m) (fun s=>(s.2 - s.1).toNat) (by simp only;omega) ⟨by simp [-List.getD_eq_getElem?_getD],by simp only;omega,by simp [-List.getD_eq_getElem?_getD]⟩ (fun s K hI hK=>?_)
    obtain ⟨i,j⟩:=s
    obtain ⟨h1,h2,h3⟩:=hI
    simp only at h1 h2 h3 hK ⊢
    refine zbM (fun hlt=>?_) (fun hge=>?_)
    · rw [half (by omega)]
      refine zaj (by omega) (zap (by unfold inU;omega) (zaj (by omega) (zap (by omega) (zap (by omega) (wp_bind (hc _ _ (by omega) (by omega) (by omega) (by omega)) (fun y _=>?_))))))
      refine zeV (fun _=>zaj (by omega) (hK _ ⟨by simp only;omega,by simp only;omega,by simp only;omega⟩ (by simp only;omega))) (fun _=>hK _ ⟨by simp only;omega,by simp only;omega,by simp only;omega⟩ (by simp only;omega))
    · refine wp_loop (fun s=>s.1≤m∧s.2.Perm l) (fun s=>(s.1 - i).toNat) (by simp only;omega) ⟨by simp [-List.getD_eq_getElem?_getD],.refl _⟩ (fun s K2 hI2 hK2=>?_)
      obtain ⟨k,s⟩:=s
      obtain ⟨g1,g2⟩:=hI2
      simp only at g1 g2 hK2 ⊢
      have hlen:=g2.length_eq
      refine zbM (fun hk=>?_) (fun _=>zam g2)
      refine zaj (by omega) (zaj (by omega) (zap (by omega) (zap (by omega) (zap (by omega) (zap (by rw [List.length_set];omega) (zaj (by omega) ?_))))))
      exact hK2 _ ⟨by simp only;omega,swap_perm g2 (by omega) (by omega)⟩ (by simp only;omega)
  rw [half (by omega)]
  refine zaj (by omega) (zap (by unfold inU;omega) (zaj (by omega) (zaj (by omega) ?_)))
  have hmid:a<(a+b) / 2∧(a+b) / 2<b:=by omega
  generalize hmd:(a+b) / 2=mid at hmid ⊢
  have hm2:2 * mid≤a+b∧a+b≤2 * mid+1:=by omega
  refine zeq (fun s=>a≤s.1∧mid+m - b≤s.1∧s.1≤s.2∧(s.2=mid∧mid<m∨s.2=m∧m≤mid)) (fun K hK=>?_) (fun s hs=>?_)
  · refine zbM (fun h=>zaj (by omega) (hK _ ⟨by simp only;omega,by simp only;omega,by simp only;omega,.inl ⟨rfl,h⟩⟩)) (fun h=>hK _ ⟨by simp [-List.getD_eq_getElem?_getD],by simp only;omega,by simp only;omega,.inr ⟨rfl,by omega⟩⟩)
  obtain ⟨st,r⟩:=s
  obtain ⟨s1,s2,s3,s4⟩:=hs
  simp only at s1 s2 s3 s4 ⊢
  refine zaj (by omega) ?_
  refine wp_loop (fun s=>st≤s.1∧s.1≤s.2∧s.2≤r) (fun s=>(s.2 - s.1).toNat) (by simp only;omega) ⟨by simp [-List.getD_eq_getElem?_getD],s3,by simp [-List.getD_eq_getElem?_getD]⟩ (fun s K hI hK=>?_)
  obtain ⟨i,j⟩:=s
  obtain ⟨h1,h2,h3⟩:=hI
  simp only at h1 h2 h3 hK ⊢
  refine zbM (fun hlt=>?_) (fun hge=>?_)
  · rw [half (by omega)]
    refine zaj (by omega) (zap (by unfold inU;omega) (zaj (by omega) (zaj (by omega) (zap (by omega) (zap (by omega) (wp_bind (hc _ _ (by omega) (by omega) (by omega) (by omega)) (fun y _=>?_)))))))
    refine zeV (fun _=>zaj (by omega) (hK _ ⟨by simp only;omega,by simp only;omega,by simp only;omega⟩ (by simp only;omega))) (fun _=>hK _ ⟨by simp only;omega,by simp only;omega,by simp only;omega⟩ (by simp only;omega))
  refine zaj (by omega) ?_
  refine zeq (fun s=>s.Perm l) (fun K hK=>?_) (fun s hs=>?_)
  · refine zbw (fun h=>?_) (fun h=>hK _ (.refl _))
    simp only [Bool.and_eq_true,decide_eq_true_eq] at h
    exact wp_bind (zog hf hl (by omega) (by omega) (by omega) (by omega)) (fun y hy=>zap hy.length_eq (hK _ hy))
  have hsl:=hs.length_eq
  refine zeq (fun s=>s.Perm l) (fun K hK=>?_) (fun t ht=>?_)
  · refine zbw (fun h=>?_) (fun h=>hK _ hs)
    simp only [Bool.and_eq_true,decide_eq_true_eq] at h
    exact wp_bind (zfs hf n (by omega) (H.perm hs) (by omega) (by omega) (by omega) (by omega) (by omega)) (fun y hy=>zap hy.length_eq (hK _ (hy.trans hs)))
  have htl:=ht.length_eq
  refine zbw (fun h=>?_) (fun h=>zam ht)
  simp only [Bool.and_eq_true,decide_eq_true_eq] at h
  exact wp_bind (zfs hf n (by omega) (H.perm ht) (by omega) (by omega) (by omega) (by omega) (by omega)) (fun y hy=>zam (hy.trans ht))
theorem zkz {fuel:Nat} (hf:1000≤fuel) {l:List Int} (hl:l.length≤100) {c:Int→Int→Option Int} (H:Cmp l c):Wp (zaF fuel l c) (fun r=>r.Perm l):=by
 unfold zaF
 refine wp_bind (Q:=fun r=>r.Perm l) ?_ (fun y hy=>zam hy)
 unfold zbz
 refine wp_loop (fun s=>0≤s.1∧s.1+20=s.2.1∧s.1≤(l.length:Int)∧s.2.2.Perm l) (fun s=>(200 - s.1).toNat) (by simp only;omega) ⟨by simp [-List.getD_eq_getElem?_getD],by simp [-List.getD_eq_getElem?_getD],by simp only;omega,.refl _⟩ (fun s K hI hK=>?_)
 obtain ⟨i,j,s⟩:=s
 obtain ⟨h1,h2,h3,h4⟩:=hI
 simp only at h1 h2 h3 h4 hK ⊢
 have hlen:=h4.length_eq
 refine zbM (fun hlt=>?_) (fun hge=>?_)
 · exact wp_bind (ziE hf (by omega) (H.perm h4) (by omega) (by omega)) (fun y hy=>zap hy.length_eq (zaj (by omega) (hK _ ⟨by simp only;omega,by simp only,by simp only;omega,hy.trans h4⟩ (by simp only;omega))))
 refine wp_bind (ziE hf (by omega) (H.perm h4) (by omega) (by omega)) (fun y hy=>zap hy.length_eq ?_)
 have hy':=hy.trans h4
 refine wp_loop (fun s=>20≤s.1∧s.1≤200∧s.2.Perm l) (fun s=>(200 - s.1).toNat) (by simp only;omega) ⟨by simp [-List.getD_eq_getElem?_getD],by simp [-List.getD_eq_getElem?_getD],hy'⟩ (fun t K2 hI2 hK2=>?_)
 obtain ⟨bs,t⟩:=t
 obtain ⟨g1,g2,g3⟩:=hI2
 simp only at g1 g2 g3 hK2 ⊢
 refine zbM (fun hbs=>?_) (fun _=>zam g3)
 refine zaj (by omega) ?_
 refine wp_loop (fun s=>0≤s.1∧s.1+2 * bs=s.2.1∧s.1≤(l.length:Int)∧s.2.2.Perm l) (fun s=>(1000 - s.1).toNat - 100) (by simp only;omega) ⟨by simp [-List.getD_eq_getElem?_getD],by simp [-List.getD_eq_getElem?_getD],by simp only;omega,g3⟩ (fun u K3 hI3 hK3=>?_)
 obtain ⟨x,z,u⟩:=u
 obtain ⟨u1,u2,u3,u4⟩:=hI3
 simp only at u1 u2 u3 u4 hK3 ⊢
 have hul:=u4.length_eq
 refine zbM (fun hz=>?_) (fun hz=>?_)
 · exact zaj (by omega) (wp_bind (zfs hf fuel (by omega) (H.perm u4) (by omega) (by omega) (by omega) (by omega) (by omega)) (fun y hy=>zap hy.length_eq (zaj (by omega) (zaj (by omega) (hK3 _ ⟨by simp only;omega,by simp only,by simp only;omega,hy.trans u4⟩ (by simp only;omega))))))
 refine zaj (by omega) ?_
 refine zeq (fun s=>s.Perm l) (fun K4 hK4=>?_) (fun v hv=>zaj (by omega) (hK2 _ ⟨by simp only;omega,by simp only;omega,hv⟩ (by simp only;omega)))
 refine zbM (fun hx=>?_) (fun hx=>hK4 _ u4)
 exact wp_bind (zfs hf fuel (by omega) (H.perm u4) (by omega) (by omega) (by omega) (by omega) (by omega)) (fun y hy=>zap hy.length_eq (hK4 _ (hy.trans u4)))
end Go.Sp
end
/- Plain laws, mantle: which mantle a lamp has, by both; which burns tell; ages as sums. No program in sight. -/
section
set_option linter.all false
namespace Go.Sp
open Go.Av
set_option maxRecDepth 100000
def mt (w:Wear) (i:Nat):Mantle:=w.Mantles.getD i default
def bn (w:Wear) (i:Nat):Burn:=w.Burns.getD i default
def Cand (w:Wear) (lamp night known:Int) (j:Nat):Prop:=(mt w j).Lamp=lamp∧(mt w j).Night≤night∧zat (mt w j).Known (mt w j).Until known=true
instance (w:Wear) (lamp night known:Int) (j:Nat):Decidable (Cand w lamp night known j):=inferInstanceAs (Decidable (_∧_∧_))
def fitN (w:Wear) (lamp night known:Int):Nat→Int
 | 0=>-1
 | n+1=>if Cand w lamp night known n∧(fitN w lamp night known n<0∨(mt w (fitN w lamp night known n).toNat).Night≤(mt w n).Night) then (n:Int) else fitN w lamp night known n
def fit (w:Wear) (lamp night known:Int):Int:=fitN w lamp night known w.Mantles.length
structure FitIs (w:Wear) (lamp night known:Int) (n:Nat) (i:Nat):Prop where
 lt:i<n
 cand:Cand w lamp night known i
 top:∀ j,j<n→Cand w lamp night known j→(mt w j).Night≤(mt w i).Night∧(i<j→(mt w j).Night<(mt w i).Night)
theorem zjB (w:Wear) (lamp night known:Int):∀ n,(fitN w lamp night known n = -1∧∀ j,j<n→¬ Cand w lamp night known j)∨∃ i:Nat,fitN w lamp night known n=(i:Int)∧FitIs w lamp night known n i
 | 0=>.inl ⟨rfl,fun j hj=>absurd hj (Nat.not_lt_zero _)⟩
 | n+1=>by
  unfold fitN
  rcases zjB w lamp night known n with ⟨e,h⟩|⟨i,e,h⟩
  · rw [e]
    by_cases hc:Cand w lamp night known n
    · rw [if_pos ⟨hc,.inl (by omega)⟩]
      refine .inr ⟨n,rfl,by omega,hc,fun j hj hcj=>?_⟩
      by_cases e:j=n
      · subst e;exact ⟨Int.le_refl _,fun h=>absurd h (Nat.lt_irrefl _)⟩
      · exact absurd hcj (h j (by omega))
    · rw [if_neg (fun h=>hc h.1)]
      refine .inl ⟨rfl,fun j hj=>?_⟩
      by_cases e:j=n
      · rw [e];exact hc
      · exact h j (by omega)
  · rw [e,Int.toNat_natCast]
    by_cases hc:Cand w lamp night known n∧((i:Int)<0∨(mt w i).Night≤(mt w n).Night)
    · rw [if_pos hc]
      have h2:(mt w i).Night≤(mt w n).Night:=hc.2.resolve_left (by omega)
      refine .inr ⟨n,rfl,by omega,hc.1,fun j hj hcj=>?_⟩
      by_cases e:j=n
      · subst e;exact ⟨Int.le_refl _,fun h=>absurd h (Nat.lt_irrefl _)⟩
      · have:=(h.top j (by omega) hcj).1
        exact ⟨by omega,fun h=>by omega⟩
    · rw [if_neg hc]
      refine .inr ⟨i,rfl,by have:=h.lt;omega,h.cand,fun j hj hcj=>?_⟩
      by_cases e:j=n
      · subst e
        have:¬ (mt w i).Night≤(mt w j).Night:=fun h=>hc ⟨hcj,.inr h⟩
        exact ⟨by omega,fun _=>by omega⟩
      · exact h.top j (by omega) hcj
theorem zkW (w:Wear) (lamp night known:Int):(fit w lamp night known = -1∧∀ j,j<w.Mantles.length→¬ Cand w lamp night known j)∨∃ i:Nat,fit w lamp night known=(i:Int)∧FitIs w lamp night known w.Mantles.length i:=zjB w lamp night known _
theorem FitIs.eq {w:Wear} {lamp night known:Int} {i j:Nat} (h1:FitIs w lamp night known w.Mantles.length i) (h2:FitIs w lamp night known w.Mantles.length j):i=j:=by
 have a:=h1.top j h2.lt h2.cand
 have b:=h2.top i h1.lt h1.cand
 rcases Nat.lt_trichotomy i j with h|h|h
 · have:=a.2 h;omega
 · exact h
 · have:=b.2 h;omega
theorem FitIs.fit {w:Wear} {lamp night known:Int} {i:Nat} (h:FitIs w lamp night known w.Mantles.length i):fit w lamp night known=(i:Int):=by
 rcases zkW w lamp night known with ⟨e,h2⟩|⟨j,e,h2⟩
 · exact absurd h.cand (h2 i h.lt)
 · rw [e,h2.eq h]
theorem zoV {w:Wear} {lamp night known:Int} {i:Nat} (h:Go.Sp.fit w lamp night known=(i:Int)):FitIs w lamp night known w.Mantles.length i:=by
 rcases zkW w lamp night known with ⟨e,h2⟩|⟨j,e,h2⟩
 · omega
 · have:i=j:=by omega
   subst this;exact h2
theorem zoU (w:Wear) (lamp night known:Int) : -1≤fit w lamp night known∧fit w lamp night known<(w.Mantles.length:Int):=by
 rcases zkW w lamp night known with ⟨e,_⟩|⟨j,e,h⟩
 · omega
 · have:=h.lt;omega
theorem FitIs.earlier {w:Wear} {lamp night known night':Int} {i:Nat} (h:FitIs w lamp night known w.Mantles.length i) (h1:(mt w i).Night≤night') (h2:night'≤night):FitIs w lamp night' known w.Mantles.length i:=
 ⟨h.lt,⟨h.cand.1,h1,h.cand.2.2⟩,fun j hj hc=>h.top j hj ⟨hc.1,by have:=hc.2.1;omega,hc.2.2⟩⟩
theorem zjA (w:Wear) (lamp night known:Int):zb5 w lamp night known=some (fit w lamp night known):=by
 unfold zb5
 refine Wp.eq (zeB (fun i s=>s=fitN w lamp night known i) rfl (fun i s K hi hI hK=>?_) (fun s hs=>zam hs))
 have hs:=zjB w lamp night known i
 rw [← hI] at hs
 refine zap (fun h=>?_) ?_
 · simp only [Bool.and_eq_true,Bool.not_eq_true',decide_eq_false_iff_not] at h
   rcases hs with ⟨e,_⟩|⟨j,e,hj⟩
   · omega
   · have:=hj.lt;omega
 have e:((((decide ((w.Mantles.getD i default).Lamp=lamp)) && (decide ((w.Mantles.getD i default).Night≤night))) && (zat ((w.Mantles.getD i default).Known) ((w.Mantles.getD i default).Until) known)) && ((decide (s<0)) || (decide ((w.Mantles.getD (s).toNat default).Night≤(w.Mantles.getD i default).Night))))=decide (Cand w lamp night known i∧(s<0∨(mt w s.toNat).Night≤(mt w i).Night)):=by
  rw [Bool.eq_iff_iff]
  simp only [Bool.and_eq_true,Bool.or_eq_true,decide_eq_true_eq,Cand,mt,and_assoc]
 rw [e]
 refine zbM (fun h=>hK _ ?_) (fun h=>hK _ ?_)
 · subst hI;unfold fitN;rw [if_pos h]
 · subst hI;conv=>rhs;unfold fitN
   rw [if_neg h]
def zpd:Mantle:=⟨0,0,0,0,0,0⟩
def atR (w:Wear) (lamp night known:Int):Mantle×Bool:=if fit w lamp night known<0 then (zpd,false) else (mt w (fit w lamp night known).toNat,true)
theorem rcounts (a b c:Int):zaw a b c=zat a b c:=rfl
theorem at_eq {w:Wear} {fuel:Nat} (hf:w.Mantles.length<fuel) (hn:w.Mantles.length≤60) (lamp night known:Int):zbx fuel w lamp night known=some (atR w lamp night known):=by
 unfold zbx
 refine Wp.eq ?_
 refine wp_loop (fun s=>∃ i:Nat,s.2.1=(i:Int)∧i≤w.Mantles.length∧s.1 = !decide (fitN w lamp night known i<0)∧s.2.2=if fitN w lamp night known i<0 then zpd else mt w (fitN w lamp night known i).toNat) (fun s=>w.Mantles.length - s.2.1.toNat) (by simp [-List.getD_eq_getElem?_getD];omega) ⟨0,rfl,Nat.zero_le _,rfl,rfl⟩ (fun s K hI hK=>?_)
 obtain ⟨b,x,m⟩:=s
 obtain ⟨i,h1,h2,h3,h4⟩:=hI
 simp only at h1 h2 h3 h4 hK ⊢
 subst h1
 by_cases hin:i<w.Mantles.length
 · refine za9 (by simp [-List.getD_eq_getElem?_getD];omega) (zap (by omega) ?_)
   simp only [Int.toNat_natCast] at hK ⊢
   have e:((((decide ((w.Mantles.getD i default).Lamp=lamp)) && (decide ((w.Mantles.getD i default).Night≤night))) && (zaw ((w.Mantles.getD i default).Known) ((w.Mantles.getD i default).Until) known)) && ((!b) || (decide (m.Night≤(w.Mantles.getD i default).Night))))=decide (Cand w lamp night known i∧(fitN w lamp night known i<0∨(mt w (fitN w lamp night known i).toNat).Night≤(mt w i).Night)):=by
    rw [Bool.eq_iff_iff,h3,h4]
    by_cases hc:fitN w lamp night known i<0
    · simp only [hc,Bool.and_eq_true,Bool.or_eq_true,decide_eq_true_eq,Cand,mt,and_assoc,rcounts];simp [-List.getD_eq_getElem?_getD]
    · simp only [hc,Bool.and_eq_true,Bool.or_eq_true,decide_eq_true_eq,Cand,mt,and_assoc,rcounts];simp [-List.getD_eq_getElem?_getD]
   rw [e]
   refine zbM (fun h=>zaj (by omega) (hK _ ⟨i+1,by simp [-List.getD_eq_getElem?_getD],by omega,?_,?_⟩ (by simp only;omega))) (fun h=>zaj (by omega) (hK _ ⟨i+1,by simp [-List.getD_eq_getElem?_getD],by omega,?_,?_⟩ (by simp only;omega)))
   · simp only;unfold fitN;rw [if_pos h];simp [-List.getD_eq_getElem?_getD]
   · simp only;unfold fitN;rw [if_pos h,if_neg (by omega)];simp [-List.getD_eq_getElem?_getD,mt]
   · simp only;unfold fitN;rw [if_neg h];exact h3
   · simp only;unfold fitN;rw [if_neg h];exact h4
 · have:i=w.Mantles.length:=by omega
   subst this
   refine zaU (by simp [-List.getD_eq_getElem?_getD]) (zam ?_)
   unfold atR fit
   rw [h3,h4]
   by_cases hc:fitN w lamp night known w.Mantles.length<0
   · simp [-List.getD_eq_getElem?_getD,hc]
   · simp [-List.getD_eq_getElem?_getD,hc]
def tell (w:Wear) (known:Int) (i:Nat):Bool:=decide (0≤fit w (bn w i).Lamp (bn w i).Night known) && zat (bn w i).Known (bn w i).Until known &&
 decide (∀ k,k<w.Burns.length→i<k→¬ ((bn w k).Lamp=(bn w i).Lamp∧(bn w k).Night=(bn w i).Night∧zat (bn w k).Known (bn w k).Until known=true))
def zb2 (P:Nat→Bool) (f:Nat→Int):Nat→Int
 | 0=>0
 | n+1=>zb2 P f n+(if P n=true then f n else 0)
theorem zf2 {P Q:Nat→Bool} {f:Nat→Int}:∀ {n:Nat},(∀ i,i<n→P i=Q i)→zb2 P f n=zb2 Q f n
 | 0,_=>rfl
 | n+1,h=>by unfold zb2;rw [zf2 (fun i hi=>h i (by omega)),h n (by omega)]
theorem zja {P Q:Nat→Bool} {f:Nat→Int}:∀ {n:Nat},(∀ i,i<n→0≤f i)→(∀ i,i<n→P i=true→Q i=true)→zb2 P f n≤zb2 Q f n
 | 0,_,_=>Int.le_refl _
 | n+1,h0,h=>by
  unfold zb2
  have h1:=zja (fun i hi=>h0 i (by omega)) (fun i hi=>h i (by omega)) (P:=P) (Q:=Q) (f:=f) (n:=n)
  have h2:=h0 n (by omega)
  by_cases hp:P n=true
  · rw [if_pos hp,if_pos (h n (by omega) hp)];omega
  · rw [if_neg hp];split <;> omega
theorem zf3 {P:Nat→Bool} {f:Nat→Int} {c:Int} (hc:0≤c):∀ {n:Nat},(∀ i,i<n→0≤f i∧f i≤c)→0≤zb2 P f n∧zb2 P f n≤(n:Int) * c
 | 0,_=>by simp [-List.getD_eq_getElem?_getD,zb2]
 | n+1,h=>by
  unfold zb2
  have h1:=zf3 hc (fun i hi=>h i (by omega)) (P:=P) (f:=f) (n:=n)
  have h2:=h n (by omega)
  have:((n+1:Nat):Int) * c=(n:Int) * c+c:=by rw [Int.natCast_add,Int.add_mul];simp [-List.getD_eq_getElem?_getD]
  rw [this]
  split <;> omega
theorem zj7 {P Q R:Nat→Bool} {f:Nat→Int}:∀ {n:Nat},(∀ i,i<n→R i=(P i || Q i))→(∀ i,i<n→¬ (P i=true∧Q i=true))→zb2 R f n=zb2 P f n+zb2 Q f n
 | 0,_,_=>rfl
 | n+1,h1,h2=>by
  unfold zb2
  rw [zj7 (fun i hi=>h1 i (by omega)) (fun i hi=>h2 i (by omega)),h1 n (by omega)]
  have:=h2 n (by omega)
  cases hp:P n <;> cases hq:Q n <;> simp_all [-List.getD_eq_getElem?_getD] <;> omega
def zkM (w:Wear) (known m from_ to:Int) (i:Nat):Bool:=tell w known i && decide (fit w (bn w i).Lamp (bn w i).Night known=m) && (decide (from_<(bn w i).Night) && decide ((bn w i).Night≤to))
def zfQ (w:Wear) (known m from_ to:Int):Int:=zb2 (zkM w known m from_ to) (fun i=>(bn w i).Minutes.Lo) w.Burns.length
def zc1 (w:Wear) (known m from_ to:Int):Int:=zb2 (zkM w known m from_ to) (fun i=>(bn w i).Minutes.Hi) w.Burns.length
end Go.Sp
end
/- Plain laws, mantle: which burns tell, ages, by both; the burns of each mantle. No program in sight. -/
section
set_option linter.all false
namespace Go.Sp
open Go.Av
set_option maxRecDepth 100000
theorem zeY {T:Type} [Inhabited T] {p:T→Option Bool} {q:T→Bool} (hp:∀ x,p x=some (q x)) (l:List T) :
 (zao (zas (fun i1 (s1:Unit) k1=>zao (p (l.getD i1 default)) fun y3=>(bif y3 then some (i1:Int) else k1 ())) (fun (s1:Unit)=>some (-1)) l.length 0 ():Option Int) fun y1=>some (decide (0≤y1)))=some (l.any q):=by
 rw [zeX hp l]
 show some _=some _
 congr 1
 cases h:l.findIdx? q with
 | none=>
  rw [List.findIdx?_eq_none_iff] at h
  have:l.any q=false:=by rw [List.any_eq_false];intro x hx;simp [-List.getD_eq_getElem?_getD,h x hx]
  rw [this];rfl
 | some i=>
  rw [List.findIdx?_eq_some_iff_getElem] at h
  obtain ⟨h1,h2,_⟩:=h
  have:l.any q=true:=List.any_eq_true.2 ⟨_,List.getElem_mem h1,h2⟩
  rw [this];simp [-List.getD_eq_getElem?_getD]
def zkh (w:Wear) (known:Int) (i k:Nat):Prop:=(bn w k).Lamp=(bn w i).Lamp∧(bn w k).Night=(bn w i).Night∧zat (bn w k).Known (bn w k).Until known=true
theorem zmP {w:Wear} {known:Int} {i:Nat}:tell w known i=true↔0≤fit w (bn w i).Lamp (bn w i).Night known∧zat (bn w i).Known (bn w i).Until known=true∧∀ k,k<w.Burns.length→i<k→¬ zkh w known i k:=by
 simp only [tell,Bool.and_eq_true,decide_eq_true_eq,and_assoc,zkh]
theorem zqd {w:Wear} {known:Int} {i:Nat}:(w.Burns.drop (i+1)).any (fun x0=>zbl x0 (bn w i) known)=true↔∃ k,k<w.Burns.length∧i<k∧zkh w known i k:=by
 rw [List.any_eq_true]
 constructor
 · rintro ⟨x,hx,h⟩
   obtain ⟨j,hj,rfl⟩:=zdR hx
   rw [List.length_drop] at hj
   rw [getD_drop] at h
   refine ⟨i+1+j,by omega,by omega,?_⟩
   simp only [zbl,Bool.and_eq_true,decide_eq_true_eq,and_assoc] at h
   exact h
 · rintro ⟨k,hk,hik,h⟩
   refine ⟨bn w k,?_,by simp only [zbl,Bool.and_eq_true,decide_eq_true_eq,and_assoc];exact h⟩
   have:(w.Burns.drop (i+1)).getD (k - (i+1)) default=bn w k:=by rw [getD_drop];unfold bn;congr 1;omega
   rw [← this]
   exact zb6 (by rw [List.length_drop];omega)
theorem znv {w:Wear} (V:WearOk w) {fuel:Nat} (hf:100<fuel) (known:Int):zbV fuel w known=some ((List.range w.Burns.length).map (tell w known)):=by
 have nu:=V.nu;have nm:=V.nm
 unfold zbV
 refine Wp.eq ?_
 refine zhd w.Burns.length (by omega) (fun i (s:List Bool)=>s=(List.range i).map (tell w known)) rfl (fun i s K hi hI hK=>?_)
 subst hI
 by_cases hin:i<w.Burns.length
 · refine za9 (by simp [-List.getD_eq_getElem?_getD];omega) (zap (by simp only;omega) ?_)
   simp only [Int.toNat_natCast]
   refine zau (at_eq (by omega) nm _ _ known) (zaj (by omega) ?_)
   refine wp_loop (fun s=>∃ k:Nat,s.1=(k:Int)∧i+1≤k∧k≤w.Burns.length∧(s.2=true↔0≤fit w (bn w i).Lamp (bn w i).Night known∧zat (bn w i).Known (bn w i).Until known=true∧∀ j,j<k→i<j→¬ zkh w known i j)) (fun s=>w.Burns.length - s.1.toNat) (by simp only;omega)
    ⟨i+1,by simp [-List.getD_eq_getElem?_getD],Nat.le_refl _,hin,?_⟩ (fun s K2 hI2 hK2=>?_)
   · show (_ && _)=true↔_
     have e:(atR w (w.Burns.getD i default).Lamp (w.Burns.getD i default).Night known).2=decide (0≤fit w (bn w i).Lamp (bn w i).Night known):=by
      unfold atR bn
      by_cases h:fit w (w.Burns.getD i default).Lamp (w.Burns.getD i default).Night known<0
      · rw [if_pos h];simp [-List.getD_eq_getElem?_getD];omega
      · rw [if_neg h];simp [-List.getD_eq_getElem?_getD];omega
     rw [e,Bool.and_eq_true,decide_eq_true_eq]
     exact ⟨fun h=>⟨h.1,h.2,fun j hj hij=>by omega⟩,fun h=>⟨h.1,h.2.1⟩⟩
   obtain ⟨x,b⟩:=s
   obtain ⟨k,h1,h2,h3,h4⟩:=hI2
   simp only at h1 h4 hK2 ⊢
   subst h1
   by_cases hk:k<w.Burns.length
   · refine za9 (by simp [-List.getD_eq_getElem?_getD];omega) (zap (by omega) (zaj (by omega) (hK2 _ ⟨k+1,by simp [-List.getD_eq_getElem?_getD],by omega,by omega,?_⟩ (by simp only;omega))))
     simp only [Int.toNat_natCast,Bool.and_eq_true,h4]
     have e:(((!decide ((w.Burns.getD k default).Lamp=(w.Burns.getD i default).Lamp)) || (!decide ((w.Burns.getD k default).Night=(w.Burns.getD i default).Night))) || (!(zaw ((w.Burns.getD k default).Known) ((w.Burns.getD k default).Until) known)))=true↔¬ zkh w known i k:=by
      simp only [Bool.or_eq_true,Bool.not_eq_true',decide_eq_false_iff_not,zkh,bn,rcounts]
      constructor
      · rintro ((h|h)|h) ⟨h1,h2,h3⟩
        · exact h h1
        · exact h h2
        · rw [h] at h3;cases h3
      · intro h
        by_cases h1:(w.Burns.getD k default).Lamp=(w.Burns.getD i default).Lamp
        · by_cases h2:(w.Burns.getD k default).Night=(w.Burns.getD i default).Night
          · refine .inr ?_
            cases h3:zat (w.Burns.getD k default).Known (w.Burns.getD k default).Until known with
            | false=>rfl
            | true=>exact absurd ⟨h1,h2,h3⟩ h
          · exact .inl (.inr h2)
        · exact .inl (.inl h1)
     rw [e]
     constructor
     · rintro ⟨⟨a1,a2,a3⟩,a4⟩
       refine ⟨a1,a2,fun j hj hij=>?_⟩
       by_cases e:j=k
       · rw [e];exact a4
       · exact a3 j (by omega) hij
     · rintro ⟨a1,a2,a3⟩
       exact ⟨⟨a1,a2,fun j hj hij=>a3 j (by omega) hij⟩,a3 k (by omega) (by omega)⟩
   · have:k=w.Burns.length:=by omega
     subst this
     refine zaU (by simp [-List.getD_eq_getElem?_getD]) (zck (by simp [-List.getD_eq_getElem?_getD];omega) (zaj (by omega) (hK _ hin ?_)))
     rw [List.range_succ,List.map_append]
     congr 1
     simp only [List.map_cons,List.map_nil]
     congr 1
     rw [Bool.eq_iff_iff,h4,zmP]
 · have:i=w.Burns.length:=by omega
   subst this
   exact zaU (by simp [-List.getD_eq_getElem?_getD]) (zam rfl)
theorem zlX {w:Wear} (V:WearOk w) {i:Nat} (hi:i<w.Burns.length):BurnOk (bn w i):=(V.bu i hi).1
theorem sum60 {w:Wear} (V:WearOk w) (P:Nat→Bool) {n:Nat} (hn:n≤w.Burns.length):(0≤zb2 P (fun i=>(bn w i).Minutes.Lo) n∧zb2 P (fun i=>(bn w i).Minutes.Lo) n≤86400)∧(0≤zb2 P (fun i=>(bn w i).Minutes.Hi) n∧zb2 P (fun i=>(bn w i).Minutes.Hi) n≤86400):=by
 have nu:=V.nu
 have h1:=zf3 (P:=P) (f:=fun i=>(bn w i).Minutes.Lo) (c:=1440) (by decide) (n:=n) (fun i hi=>by have:=(zlX V (i:=i) (by omega)).min;omega)
 have h2:=zf3 (P:=P) (f:=fun i=>(bn w i).Minutes.Hi) (c:=1440) (by decide) (n:=n) (fun i hi=>by have:=(zlX V (i:=i) (by omega)).min;omega)
 have:(n:Int) * 1440≤86400:=by omega
 omega
def zgh (w:Wear) (known:Int) (m:Mantle) (night:Int) (i:Nat):Bool:=tell w known i && decide ((bn w i).Lamp=m.Lamp) && zai (bn w i).Night m.Night night
theorem zpL {w:Wear} (V:WearOk w) {fuel:Nat} (hf:100<fuel) (m:Mantle) (night known:Int):zaV fuel w m ⟨night,known⟩=some ⟨zb2 (zgh w known m night) (fun i=>(bn w i).Minutes.Lo) w.Burns.length,zb2 (zgh w known m night) (fun i=>(bn w i).Minutes.Hi) w.Burns.length⟩:=by
 have nu:=V.nu
 unfold zaV
 refine Wp.eq (zau (znv V hf known) ?_)
 refine zhd w.Burns.length (by omega) (fun i (s:Range)=>s=⟨zb2 (zgh w known m night) (fun i=>(bn w i).Minutes.Lo) i,zb2 (zgh w known m night) (fun i=>(bn w i).Minutes.Hi) i⟩) rfl (fun i s K hi hI hK=>?_)
 subst hI
 by_cases hin:i<w.Burns.length
 · have hb:=(zlX V hin).min
   have h60:=sum60 V (zgh w known m night) (n:=i) (by omega)
   refine za9 (by simp [-List.getD_eq_getElem?_getD];omega) (zap (by simp only;omega) (zap (by simp [-List.getD_eq_getElem?_getD];omega) ?_))
   simp only [Int.toNat_natCast]
   have e:((((List.range w.Burns.length).map (tell w known)).getD i default && (decide ((w.Burns.getD i default).Lamp=m.Lamp))) && (zai ((w.Burns.getD i default).Night) m.Night night))=zgh w known m night i:=by
    have:((List.range w.Burns.length).map (tell w known)).getD i default=tell w known i:=by
     rw [List.getD_eq_getElem?_getD,List.getElem?_map,List.getElem?_range hin];rfl
    rw [this];rfl
   rw [e]
   have e3:∀ f:Nat→Int,zb2 (zgh w known m night) f (i+1)=zb2 (zgh w known m night) f i+(if zgh w known m night i=true then f i else 0):=fun f=>rfl
   unfold bn at hb h60
   refine zbw (fun h=>zaj (by simp only [bn];omega) (zaj (by simp only [bn];omega) (zaj (by omega) (hK _ hin ?_)))) (fun h=>zaj (by omega) (hK _ hin ?_))
   · rw [e3,e3,if_pos h,if_pos h];rfl
   · rw [e3,e3,if_neg (by rw [h];decide),if_neg (by rw [h];decide),Int.add_zero,Int.add_zero]
 · have:i=w.Burns.length:=by omega
   subst this
   exact zaU (by simp [-List.getD_eq_getElem?_getD]) (zam rfl)
theorem zne {w:Wear} (V:WearOk w) {known lamp night:Int} {m:Nat} (h:FitIs w lamp night known w.Mantles.length m) {i:Nat} (hi:i<w.Burns.length):zgh w known (mt w m) night i=zkM w known (m:Int) (-1) night i:=by
 rw [Bool.eq_iff_iff]
 unfold zgh zkM zai
 simp only [Bool.and_eq_true,decide_eq_true_eq]
 have hb:=(zlX V hi).told.night
 constructor
 · rintro ⟨⟨h1,h2⟩,h3,h4⟩
   refine ⟨⟨h1,?_⟩,by omega,h4⟩
   rw [h2,h.cand.1]
   exact (h.earlier h3 h4).fit
 · rintro ⟨⟨h1,h2⟩,h3,h4⟩
   have h5:=zoV h2
   exact ⟨⟨h1,h5.cand.1.symm⟩,h5.cand.2.1,h4⟩
theorem zmi {w:Wear} (V:WearOk w) {fuel:Nat} (hf:100<fuel) {known lamp night:Int} {m:Nat} (h:FitIs w lamp night known w.Mantles.length m):zaV fuel w (mt w m) ⟨night,known⟩=some ⟨zfQ w known m (-1) night,zc1 w known m (-1) night⟩:=by
 rw [zpL V hf]
 unfold zfQ zc1
 rw [zf2 (fun i hi=>zne V h hi),zf2 (fun i hi=>zne V h hi)]
def ziq (w:Wear) (known m:Int) (n:Nat):List Int:=((List.range n).filter (fun i=>tell w known i && decide (fit w (bn w i).Lamp (bn w i).Night known=m))).map (fun i:Nat=>(i:Int))
theorem zkm {w:Wear} {known m:Int} {n:Nat}:ziq w known m (n+1)=if tell w known n=true∧fit w (bn w n).Lamp (bn w n).Night known=m then ziq w known m n++[(n:Int)] else ziq w known m n:=by
 unfold ziq
 rw [List.range_succ,List.filter_append,List.map_append]
 by_cases h:tell w known n=true∧fit w (bn w n).Lamp (bn w n).Night known=m
 · rw [if_pos h]
   simp [-List.getD_eq_getElem?_getD,h]
 · rw [if_neg h]
   have:(tell w known n && decide (fit w (bn w n).Lamp (bn w n).Night known=m))=false:=by
    rw [Bool.and_eq_false_iff,decide_eq_false_iff_not]
    by_cases h1:tell w known n=true
    · exact .inr (fun h2=>h ⟨h1,h2⟩)
    · exact .inl (by simpa [-List.getD_eq_getElem?_getD] using h1)
   simp [-List.getD_eq_getElem?_getD,this]
theorem zhX {w:Wear} {known m:Int} {n:Nat} {x:Int} (h:x∈ziq w known m n):0≤x∧x<(n:Int):=by
 unfold ziq at h
 rw [List.mem_map] at h
 obtain ⟨i,hi,rfl⟩:=h
 have:=List.mem_range.1 (List.mem_filter.1 hi).1
 omega
theorem zjN (w:Wear) (known m:Int) (n:Nat):(ziq w known m n).length≤n:=by
 unfold ziq
 rw [List.length_map]
 exact Nat.le_trans (List.length_filter_le _ _) (by simp [-List.getD_eq_getElem?_getD])
theorem Mp.zpO {T:Type}:(Mp.empty:Mp T).ok:=⟨List.nodup_nil,rfl,fun k hk=>by cases hk⟩
theorem Mp.ok_set {T:Type} {m:Mp T} (h:m.ok) (hd:∀ k,(m.get k).isSome=true→k∈m.keys) (q:Int) (x:T):(m.set q x).ok∧∀ k,((m.set q x).get k).isSome=true→k∈(m.set q x).keys:=by
 obtain ⟨h1,h2,h3⟩:=h
 unfold Mp.set Mp.ok
 by_cases hq:(m.get q).isSome=true
 · simp only [hq,if_true]
   refine ⟨⟨h1,h2,fun k hk=>?_⟩,fun k hk=>?_⟩
   · by_cases e:k=q
     · rw [if_pos e];rfl
     · rw [if_neg e];exact h3 k hk
   · by_cases e:k=q
     · rw [e];exact hd q hq
     · rw [if_neg e] at hk;exact hd k hk
 · simp only [hq]
   have hnq:q ∉ m.keys:=fun h=>hq (h3 q h)
   refine ⟨⟨?_,by simp [-List.getD_eq_getElem?_getD,h2],fun k hk=>?_⟩,fun k hk=>?_⟩
   · show (m.keys++[q]).Nodup
     rw [List.nodup_append]
     exact ⟨h1,by simp [-List.getD_eq_getElem?_getD],fun a ha b hb=>by
      rw [List.mem_singleton] at hb
      subst hb
      exact fun e=>hnq (e▸ha)⟩
   · by_cases e:k=q
     · rw [if_pos e];rfl
     · rw [if_neg e]
       have:k∈m.keys++[q]:=hk
       rw [List.mem_append,List.mem_singleton] at this
       exact h3 k (this.resolve_right e)
   · show k∈m.keys++[q]
     rw [List.mem_append,List.mem_singleton]
     by_cases e:k=q
     · exact .inr e
     · rw [if_neg e] at hk;exact .inl (hd k hk)
theorem zqf {w:Wear} (V:WearOk w) {fuel:Nat} (hf:1000≤fuel) (known:Int):Wp (zek fuel w known) (fun mp=>∀ m,((mp.get m).getD default).Perm (ziq w known m w.Burns.length)):=by
 have nu:=V.nu
 unfold zek
 refine zeB (fun i s=>(s.ok∧∀ k,(s.get k).isSome=true→k∈s.keys)∧∀ m,(s.get m).getD []=ziq w known m i) ⟨⟨Mp.zpO,fun k hk=>by cases hk⟩,fun m=>rfl⟩ (fun i s K hi hI hK=>?_) (fun s hs=>?_)
 · obtain ⟨⟨h1,h2⟩,h3⟩:=hI
   refine zau (zjA w _ _ known) (zap (fun _=>by omega) ?_)
   refine zjS (Q:=fun y=>y=(w.Burns.drop (i+1)).any (fun x0=>zbl x0 (bn w i) known)) (fun _=>?_) (fun y6 h6=>?_)
   · have e:(((i:Int)+1)).toNat=i+1:=by omega
     rw [e]
     exact ⟨_,zeY (q:=fun x0=>zbl x0 (bn w i) known) (fun x=>rfl) _,rfl⟩
   have e:(((decide (0≤fit w (w.Burns.getD i default).Lamp (w.Burns.getD i default).Night known)) && (zat ((w.Burns.getD i default).Known) ((w.Burns.getD i default).Until) known)) && (!y6))=tell w known i:=by
    rw [Bool.eq_iff_iff,zmP]
    simp only [Bool.and_eq_true,Bool.not_eq_true',decide_eq_true_eq,and_assoc,bn]
    refine and_congr_right (fun a1=>and_congr_right (fun a2=>?_))
    have h7:=h6 (by simp only [Bool.and_eq_true,decide_eq_true_eq];exact ⟨a1,a2⟩)
    rw [h7,← Bool.not_eq_true,zqd]
    exact ⟨fun h k hk hik hl=>h ⟨k,hk,hik,hl⟩,fun h ⟨k,hk,hik,hl⟩=>h k hk hik hl⟩
   rw [e]
   have hlen:=zjN w known (fit w (w.Burns.getD i default).Lamp (w.Burns.getD i default).Night known) i
   refine zbw (fun ht=>zck (by rw [h3];simp [-List.getD_eq_getElem?_getD];omega) (hK _ ⟨Mp.ok_set h1 h2 _ _,fun m=>?_⟩)) (fun ht=>hK _ ⟨⟨h1,h2⟩,fun m=>?_⟩)
   · rw [h3]
     show (if m=_ then some _ else s.get m).getD []=_
     rw [zkm]
     by_cases e1:m=fit w (bn w i).Lamp (bn w i).Night known
     · have e2:tell w known i=true∧fit w (bn w i).Lamp (bn w i).Night known=m:=⟨ht,e1.symm⟩
       rw [if_pos e2,e1]
       exact congrArg (fun z=>Option.getD z []) (if_pos rfl)
     · have e2:¬ (tell w known i=true∧fit w (bn w i).Lamp (bn w i).Night known=m):=fun h=>e1 h.2.symm
       rw [if_neg e2,← h3 m]
       exact congrArg (fun z=>Option.getD z []) (if_neg e1)
   · rw [zkm,if_neg (fun h=>by rw [ht] at h;cases h.1),h3]
 · obtain ⟨⟨h1,h2⟩,h3⟩:=hs
   refine zap h1 ?_
   have hsort:∀ m,Wp (zaF fuel ((s.get m).getD []) (fun x0 x1=>zbO x0 x1 w)) (fun r=>r.Perm ((s.get m).getD [])):=fun m=>by
    have hl:=zjN w known m w.Burns.length
    refine zkz hf (by rw [h3];omega) (fun a ha b hb=>?_)
    rw [h3] at ha hb
    have a1:=zhX ha
    have b1:=zhX hb
    unfold zbO
    rw [zeW a1,zeW b1]
    exact ⟨_,rfl⟩
   have hrow:∀ m,Wp (zao (zaF fuel ((s.get m).getD []) (fun x0 x1=>zbO x0 x1 w)) fun y13=>must (y13.length=((s.get m).getD []).length) (some y13)) (fun r=>r.Perm ((s.get m).getD [])):=fun m=>wp_bind (hsort m) (fun y hy=>zap hy.length_eq (zam hy))
   refine wp_bind (Q:=fun y=>∀ m,((y.get m).getD default).Perm (ziq w known m w.Burns.length)) ?_ (fun y hy=>zam hy)
   unfold Mp.zm7
   have hall:s.keys.all (fun k=>((fun (l11:List Int)=>zao (zaF fuel l11 (fun x0 x1=>zbO x0 x1 w)) fun y13=>must (y13.length=l11.length) (some y13)) ((s.get k).getD default)).isSome)=true:=by
    rw [List.all_eq_true]
    intro k _
    obtain ⟨r,e,_⟩:=hrow k
    show (zao (zaF fuel ((s.get k).getD []) (fun x0 x1=>zbO x0 x1 w)) fun y13=>must (y13.length=((s.get k).getD []).length) (some y13)).isSome=true
    rw [e];rfl
   rw [hall]
   refine zam (fun m=>?_)
   rw [← h3]
   obtain ⟨r,e,hr⟩:=hrow m
   cases hm:s.get m with
   | none=>simp only [hm];exact .refl _
   | some l=>
    rw [hm] at e hr
    simp only [Option.getD_some,hm] at e hr ⊢
    rw [e];exact hr
end Go.Sp
end
/- Plain laws, mantle: the closet: which lives each batch may have. No program in sight. -/
section
set_option linter.all false
namespace Go.Sp
open Go.Av
set_option maxRecDepth 100000
def lsum (g:Int→Int):List Int→Int
 | []=>0
 | x::l=>g x+lsum g l
theorem zoC {g:Int→Int} {l r:List Int} (h:l.Perm r):lsum g l=lsum g r:=by
 induction h with
 | nil=>rfl
 | cons x _ ih=>unfold lsum;rw [ih]
 | swap x y l=>unfold lsum;unfold lsum;omega
 | trans _ _ h1 h2=>rw [h1,h2]
theorem zgf {g:Int→Int} (l:List Int) (x:Int):lsum g (l++[x])=lsum g l+g x:=by
 induction l with
 | nil=>simp [-List.getD_eq_getElem?_getD,lsum]
 | cons y l ih=>rw [List.cons_append];unfold lsum;rw [ih];omega
theorem zkg {g:Int→Int} {c:Int} (hc:0≤c):∀ {l:List Int},(∀ x∈l,0≤g x∧g x≤c)→0≤lsum g l∧lsum g l≤(l.length:Int) * c
 | [],_=>by simp [-List.getD_eq_getElem?_getD,lsum]
 | x::l,h=>by
  unfold lsum
  have h1:=zkg hc (fun y hy=>h y (List.mem_cons_of_mem _ hy)) (g:=g) (l:=l)
  have h2:=h x (List.mem_cons_self ..)
  have:((x::l).length:Int) * c=(l.length:Int) * c+c:=by rw [List.length_cons,Int.natCast_add,Int.add_mul];simp [-List.getD_eq_getElem?_getD]
  rw [this];omega
theorem zkf {P:Nat→Bool} {g:Int→Int}:∀ {n:Nat},lsum g (((List.range n).filter P).map (fun i:Nat=>(i:Int)))=zb2 P (fun i=>g i) n
 | 0=>rfl
 | n+1=>by
  rw [List.range_succ,List.filter_append,List.map_append]
  unfold zb2
  rw [← zkf]
  by_cases h:P n=true
  · rw [if_pos h]
    have:(List.filter P [n]).map (fun i:Nat=>(i:Int))=[(n:Int)]:=by simp [-List.getD_eq_getElem?_getD,h]
    rw [this,zgf]
  · rw [if_neg h]
    have:(List.filter P [n]).map (fun i:Nat=>(i:Int))=[]:=by simp [-List.getD_eq_getElem?_getD,h]
    rw [this,List.append_nil,Int.add_zero]
theorem zj6 {P Q:Nat→Bool} {f:Nat→Int}:∀ {n:Nat},zb2 P (fun i=>if Q i=true then f i else 0) n=zb2 (fun i=>P i && Q i) f n
 | 0=>rfl
 | n+1=>by
  unfold zb2
  rw [zj6]
  cases hp:P n <;> cases hq:Q n <;> simp [-List.getD_eq_getElem?_getD]
structure CoatOk (w:Wear) (known:Int) (m:Nat) (S:List mantle_sight) (c:mantle_coat):Prop where
 wear:c.w=w
 burns:c.burns.Perm (ziq w known m w.Burns.length)
 sights:c.sights=S
theorem zcD {T:Type} [Inhabited T] {l:List T} {i:Nat} (h:i<l.length):l.take (i+1)=l.take i++[l.getD i default]:=by
 rw [List.take_add_one,List.getElem?_eq_getElem h,List.getD_eq_getElem?_getD,List.getElem?_eq_getElem h];rfl
theorem zmL {w:Wear} (V:WearOk w) {known:Int} {m:Nat} {S:List mantle_sight} {c:mantle_coat} (hc:CoatOk w known m S c) (f t:Int):zbi c f t=some ⟨zfQ w known m f t,zc1 w known m f t⟩:=by
 have nu:=V.nu
 unfold zbi
 rw [hc.wear]
 have hlen:c.burns.length≤60:=by have:=hc.burns.length_eq;have:=zjN w known m w.Burns.length;omega
 have hin:∀ i,i<c.burns.length→0≤c.burns.getD i default∧c.burns.getD i default<(w.Burns.length:Int):=fun i hi=>zhX (hc.burns.mem_iff.1 (zb6 hi))
 let g:(Burn→Int)→Int→Int:=fun F x=>if f<(bn w x.toNat).Night∧(bn w x.toNat).Night≤t then F (bn w x.toNat) else 0
 have hL:∀ F,(∀ b,BurnOk b→0≤F b∧F b≤1440)→∀ i,0≤lsum (g F) (c.burns.take i)∧lsum (g F) (c.burns.take i)≤86400:=fun F hF i=>by
  have:=zkg (g:=g F) (c:=1440) (by decide) (l:=c.burns.take i) (fun x hx=>by
   have hx':=zhX (hc.burns.mem_iff.1 (List.mem_of_mem_take hx))
   have:=hF _ (zlX V (i:=x.toNat) (by omega))
   simp only [g]
   split <;> omega)
  have h2:(c.burns.take i).length≤60:=by rw [List.length_take];omega
  omega
 have hlo:∀ b,BurnOk b→0≤b.Minutes.Lo∧b.Minutes.Lo≤1440:=fun b hb=>by have:=hb.min;omega
 have hhi:∀ b,BurnOk b→0≤b.Minutes.Hi∧b.Minutes.Hi≤1440:=fun b hb=>by have:=hb.min;omega
 refine Wp.eq (zeB (fun i s=>s=⟨lsum (g (·.Minutes.Lo)) (c.burns.take i),lsum (g (·.Minutes.Hi)) (c.burns.take i)⟩) rfl (fun i s K hi hI hK=>?_) (fun s hs=>zam ?_))
 · subst hI
   have a:=hin i hi
   have b1:=hL _ hlo i
   have b2:=hL _ hhi i
   have hb:=(zlX V (i:=(c.burns.getD i default).toNat) (by omega)).min
   refine zap a ?_
   have e:((decide (f<(w.Burns.getD ((c.burns.getD i default)).toNat default).Night)) && (decide ((w.Burns.getD ((c.burns.getD i default)).toNat default).Night≤t)))=decide (f<(bn w (c.burns.getD i default).toNat).Night∧(bn w (c.burns.getD i default).toNat).Night≤t):=by
    rw [Bool.decide_and];rfl
   rw [e]
   unfold bn at hb
   refine zbM (fun h=>zaj (by simp only;omega) (zaj (by simp only;omega) (hK _ ?_))) (fun h=>hK _ ?_)
   · rw [zcD hi,zgf,zgf]
     simp only [g]
     rw [if_pos h,if_pos h];rfl
   · rw [zcD hi,zgf,zgf]
     simp only [g]
     rw [if_neg h,if_neg h,Int.add_zero,Int.add_zero]
 · rw [hs,List.take_length]
   have key:∀ F:Burn→Int,lsum (g F) c.burns=zb2 (zkM w known m f t) (fun i=>F (bn w i)) w.Burns.length:=fun F=>by
    rw [zoC hc.burns]
    unfold ziq
    rw [zkf]
    have:(fun i:Nat=>g F (i:Int))=fun i:Nat=>if (decide (f<(bn w i).Night) && decide ((bn w i).Night≤t))=true then F (bn w i) else 0:=by
     funext i
     simp only [g,Int.toNat_natCast,Bool.and_eq_true,decide_eq_true_eq]
    rw [this,zj6]
    rfl
   have k1:=key (fun b=>b.Minutes.Lo)
   have k2:=key (fun b=>b.Minutes.Hi)
   show Range.mk _ _=Range.mk _ _
   rw [k1,k2];rfl
structure Ends (S:List mantle_sight) (g b:Int):Prop where
 top:∀ x∈S,x.bad=false→x.night≤g
 good:g = -1∨∃ x∈S,x.bad=false∧x.night=g
 low:∀ x∈S,x.bad=true→b ≠ -1∧b≤x.night
 bad:b = -1∨∃ x∈S,x.bad=true∧x.night=b
 g0 : -1≤g
 b0 : -1≤b
theorem Ends.uniq {S:List mantle_sight} {g b g' b':Int} (h:Ends S g b) (h':Ends S g' b'):g=g'∧b=b':=by
 constructor
 · rcases h.good with e|⟨x,hx,h1,h2⟩ <;> rcases h'.good with e'|⟨y,hy,h3,h4⟩
   · omega
   · have:=h.top y hy h3;have:=h'.g0;have:=h.g0;omega
   · have:=h'.top x hx h1;have:=h'.g0;have:=h.g0;omega
   · have:=h.top y hy h3;have:=h'.top x hx h1;omega
 · rcases h.bad with e|⟨x,hx,h1,h2⟩ <;> rcases h'.bad with e'|⟨y,hy,h3,h4⟩
   · omega
   · exact absurd e (h.low y hy h3).1
   · exact absurd e' (h'.low x hx h1).1
   · have:=(h.low y hy h3).2;have:=(h'.low x hx h1).2;omega
theorem zo7 (c:mantle_coat) (hn:∀ x∈c.sights,0≤x.night):Wp (zcF c) (fun r=>Ends c.sights r.1 r.2):=by
 unfold zcF
 refine zeB (fun i s=>Ends (c.sights.take i) s.1 s.2) ⟨fun x hx=>by simp [-List.getD_eq_getElem?_getD] at hx,.inl rfl,fun x hx=>by simp [-List.getD_eq_getElem?_getD] at hx,.inl rfl,by decide,by decide⟩ (fun i s K hi hI hK=>?_) (fun s hs=>zam (by rw [List.take_length] at hs;exact hs))
 obtain ⟨g,b⟩:=s
 obtain ⟨h1,h2,h3,h4,h5,h6⟩:=hI
 simp only at h1 h2 h3 h4 h5 h6 ⊢
 have e:c.sights.getD i default=c.sights.getD i default:=rfl
 have hm:=zb6 hi
 have h0:=hn _ hm
 generalize hx:c.sights.getD i default=x at hm h0 ⊢
 have hmem:∀ y,y∈c.sights.take (i+1)↔y∈c.sights.take i∨y=x:=fun y=>by rw [zcD hi,hx];simp [-List.getD_eq_getElem?_getD]
 refine zbw (fun hb=>hK _ ?_) (fun hb=>?_)
 · have hb':x.bad=false:=by simpa [-List.getD_eq_getElem?_getD] using hb
   refine ⟨fun y hy hyb=>?_,?_,fun y hy hyb=>?_,?_,?_,h6⟩
   · rcases (hmem y).1 hy with hy|rfl
     · have:=h1 y hy hyb;simp only;omega
     · simp only;omega
   · simp only
     rcases Int.le_total g x.night with hle|hle
     · exact .inr ⟨x,(hmem x).2 (.inr rfl),hb',by omega⟩
     · rcases h2 with e|⟨y,hy,y1,y2⟩
       · exact .inr ⟨x,(hmem x).2 (.inr rfl),hb',by omega⟩
       · exact .inr ⟨y,(hmem y).2 (.inl hy),y1,by omega⟩
   · rcases (hmem y).1 hy with hy|rfl
     · exact h3 y hy hyb
     · rw [hb'] at hyb;cases hyb
   · rcases h4 with e|⟨y,hy,y1,y2⟩
     · exact .inl e
     · exact .inr ⟨y,(hmem y).2 (.inl hy),y1,y2⟩
   · simp only;omega
 · have hb':x.bad=true:=by simpa [-List.getD_eq_getElem?_getD] using hb
   refine zbw (fun hc=>hK _ ?_) (fun hc=>hK _ ?_)
   · simp only [Bool.or_eq_true,decide_eq_true_eq] at hc
     refine ⟨fun y hy hyb=>?_,?_,fun y hy hyb=>?_,.inr ⟨x,(hmem x).2 (.inr rfl),hb',rfl⟩,h5,by simp only;omega⟩
     · rcases (hmem y).1 hy with hy|rfl
       · exact h1 y hy hyb
       · rw [hb'] at hyb;cases hyb
     · rcases h2 with e|⟨y,hy,y1,y2⟩
       · exact .inl e
       · exact .inr ⟨y,(hmem y).2 (.inl hy),y1,y2⟩
     · simp only
       rcases (hmem y).1 hy with hy|rfl
       · have:=h3 y hy hyb;omega
       · omega
   · simp only [Bool.or_eq_false_iff,decide_eq_false_iff_not] at hc
     refine ⟨fun y hy hyb=>?_,?_,fun y hy hyb=>?_,?_,h5,h6⟩
     · rcases (hmem y).1 hy with hy|rfl
       · exact h1 y hy hyb
       · rw [hb'] at hyb;cases hyb
     · rcases h2 with e|⟨y,hy,y1,y2⟩
       · exact .inl e
       · exact .inr ⟨y,(hmem y).2 (.inl hy),y1,y2⟩
     · rcases (hmem y).1 hy with hy|rfl
       · exact h3 y hy hyb
       · simp only;omega
     · rcases h4 with e|⟨y,hy,y1,y2⟩
       · exact .inl e
       · exact .inr ⟨y,(hmem y).2 (.inl hy),y1,y2⟩
theorem zn0 {w:Wear} (V:WearOk w) {known m f t t':Int} (h:t≤t'):zfQ w known m f t≤zfQ w known m f t':=by
 refine zja (fun i hi=>by have:=(zlX V hi).min;omega) (fun i hi hp=>?_)
 simp only [zkM,Bool.and_eq_true,decide_eq_true_eq] at hp ⊢
 exact ⟨hp.1,hp.2.1,by omega⟩
theorem zeF {w:Wear} (V:WearOk w) {known m f f' t t':Int} (h:t≤t') (hf:f'≤f):zc1 w known m f t≤zc1 w known m f' t':=by
 refine zja (fun i hi=>by have:=(zlX V hi).min;omega) (fun i hi hp=>?_)
 simp only [zkM,Bool.and_eq_true,decide_eq_true_eq] at hp ⊢
 exact ⟨hp.1,by omega,by omega⟩
theorem zh0 {w:Wear} (V:WearOk w) (known m f t:Int):(0≤zfQ w known m f t∧zfQ w known m f t≤86400)∧(0≤zc1 w known m f t∧zc1 w known m f t≤86400):=sum60 V _ (Nat.le_refl _)
theorem zfR {w:Wear} {known m:Int} {a b c:Int} (h1:a≤b) (h2:b≤c):zc1 w known m a c=zc1 w known m a b+zc1 w known m b c:=by
 refine zj7 (fun i hi=>?_) (fun i hi h=>?_)
 · rw [Bool.eq_iff_iff]
   simp only [zkM,Bool.or_eq_true,Bool.and_eq_true,decide_eq_true_eq]
   constructor
   · rintro ⟨h3,h4,h5⟩
     rcases Int.lt_or_le b (bn w i).Night with h|h
     · exact .inr ⟨h3,h,h5⟩
     · exact .inl ⟨h3,h4,h⟩
   · rintro (⟨h3,h4,h5⟩|⟨h3,h4,h5⟩)
     · exact ⟨h3,h4,by omega⟩
     · exact ⟨h3,by omega,h5⟩
 · simp only [zkM,Bool.and_eq_true,decide_eq_true_eq] at h
   omega
structure OkBy (w:Wear) (known m:Int) (S:List mantle_sight) (x:Int):Prop where
 range:0≤x∧x≤1000000
 good:∀ s∈S,s.bad=false→zfQ w known m (-1) s.night≤x
 bad:∀ s∈S,s.bad=true→x<zc1 w known m (-1) s.night
 two:∀ s∈S,∀ t∈S,s.bad=false→t.bad=true→s.night<t.night∧0<zc1 w known m s.night t.night
def zib (w:Wear) (known m g b:Int):Range:=
 if g ≠ -1∧b ≠ -1∧(b≤g∨zc1 w known m g b=0) then ⟨1,0⟩ else ⟨if g ≠ -1 then zfQ w known m (-1) g else 0,if b ≠ -1 then min 1000000 (zc1 w known m (-1) b - 1) else 1000000⟩
def inR (r:Range) (x:Int):Prop:=r.Lo≤x∧x≤r.Hi
theorem zm8 {w:Wear} (V:WearOk w) {known:Int} {m:Nat} {S:List mantle_sight} {c:mantle_coat} (hc:CoatOk w known m S c) (hn:∀ x∈S,0≤x.night) {g b:Int} (he:Ends S g b):zbq c=some (zib w known m g b):=by
 unfold zbq
 obtain ⟨r,e,hr⟩:=zo7 c (by rw [hc.sights];exact hn)
 rw [hc.sights] at hr
 obtain ⟨e1,e2⟩:=hr.uniq he
 have er:r=(g,b):=Prod.ext e1 e2
 subst er
 refine Wp.eq (zau e ?_)
 have hb:=zh0 V known m
 unfold zib
 refine zeq (fun s=>s=if g ≠ -1 then zfQ w known m (-1) g else 0) (fun K hK=>?_) (fun s hs=>?_)
 · refine zeV (fun h=>zau (zmL V hc _ _) (hK _ ?_)) (fun h=>hK _ ?_)
   · rw [if_pos h]
   · rw [if_neg (by omega)]
 subst hs
 refine zeq (fun s=>s=if b ≠ -1 then min 1000000 (zc1 w known m (-1) b - 1) else 1000000) (fun K hK=>?_) (fun s hs=>?_)
 · refine zeV (fun h=>zau (zmL V hc _ _) (zaj (by have:=hb (-1) b;simp only;omega) (hK _ ?_))) (fun h=>hK _ ?_)
   · rw [if_pos h]
   · rw [if_neg (by omega)]
 subst hs
 refine zjS (Q:=fun y=>y=⟨zfQ w known m g b,zc1 w known m g b⟩) (fun _=>⟨_,zmL V hc _ _,rfl⟩) (fun y hy=>?_)
 simp only [Bool.and_eq_true,Bool.not_eq_true',decide_eq_false_iff_not] at hy
 refine zbw (fun h=>zam ?_) (fun h=>zam ?_)
 · simp only [Bool.and_eq_true,Bool.or_eq_true,Bool.not_eq_true',decide_eq_false_iff_not,decide_eq_true_eq] at h
   obtain ⟨⟨h1,h2⟩,h3⟩:=h
   have:b≤g∨zc1 w known m g b=0:=by
    rcases h3 with h3|h3
    · exact .inl h3
    · by_cases h4:b≤g
      · exact .inl h4
      · rw [hy ⟨⟨h1,h2⟩,h4⟩] at h3;exact .inr h3
   rw [if_pos ⟨h1,h2,this⟩]
 · have:¬ (g ≠ -1∧b ≠ -1∧(b≤g∨zc1 w known m g b=0)):=by
    rintro ⟨h1,h2,h3⟩
    have h5:(((!decide (g=(-1))) && (!decide (b=(-1)))) && ((decide (b≤g)) || (decide (y.Hi=0))))=true:=by
     simp only [Bool.and_eq_true,Bool.or_eq_true,Bool.not_eq_true',decide_eq_false_iff_not,decide_eq_true_eq]
     refine ⟨⟨h1,h2⟩,?_⟩
     by_cases h4:b≤g
     · exact .inl h4
     · rw [hy ⟨⟨h1,h2⟩,h4⟩];exact .inr (h3.resolve_left h4)
    rw [h5] at h;cases h
   rw [if_neg this]
theorem zjq {w:Wear} (V:WearOk w) {known m:Int} {S:List mantle_sight} (hn:∀ x∈S,0≤x.night) {g b:Int} (he:Ends S g b) (x:Int):inR (zib w known m g b) x↔OkBy w known m S x:=by
 have hb:=zh0 V known m
 unfold zib
 by_cases hc:g ≠ -1∧b ≠ -1∧(b≤g∨zc1 w known m g b=0)
 · rw [if_pos hc]
   obtain ⟨c1,c2,c3⟩:=hc
   refine ⟨fun h=>by have:=h.1;have:=h.2;simp only at *;omega,fun h=>?_⟩
   obtain ⟨s,hs,s1,s2⟩:=he.good.resolve_left c1
   obtain ⟨t,ht,t1,t2⟩:=he.bad.resolve_left c2
   have:=h.two s hs t ht s1 t1
   rw [s2,t2] at this
   omega
 · rw [if_neg hc]
   unfold inR
   simp only
   constructor
   · rintro ⟨h1,h2⟩
     refine ⟨?_,fun s hs sb=>?_,fun s hs sb=>?_,fun s hs t ht sb tb=>?_⟩
     · have:=hb (-1) g;have:=hb (-1) b
       constructor
       · split at h1 <;> omega
       · split at h2 <;> omega
     · have a:=he.top s hs sb
       have a0:=hn s hs
       rw [if_pos (by omega)] at h1
       have:=zn0 V (known:=known) (m:=m) (f:=-1) a
       omega
     · have a:=he.low s hs sb
       rw [if_pos a.1] at h2
       have:=zeF V (known:=known) (m:=m) (f:=-1) a.2 (Int.le_refl _)
       omega
     · have a:=he.top s hs sb
       have a0:=hn s hs
       have a2:=he.low t ht tb
       have:¬ (b≤g∨zc1 w known m g b=0):=fun h=>hc ⟨by omega,a2.1,h⟩
       have h3:0<zc1 w known m g b:=by have:=hb g b;omega
       have h4:=zeF V (known:=known) (m:=m) (f:=g) (f':=s.night) a2.2 a
       exact ⟨by omega,by omega⟩
   · intro h
     have hr:=h.range
     constructor
     · by_cases c1:g ≠ -1
       · rw [if_pos c1]
         obtain ⟨s,hs,s1,s2⟩:=he.good.resolve_left c1
         rw [← s2];exact h.good s hs s1
       · rw [if_neg c1];exact hr.1
     · by_cases c2:b ≠ -1
       · rw [if_pos c2]
         obtain ⟨t,ht,t1,t2⟩:=he.bad.resolve_left c2
         have:=h.bad t ht t1
         rw [t2] at this;omega
       · rw [if_neg c2];exact hr.2
theorem zo8 (S:List mantle_sight) (hn:∀ x∈S,0≤x.night):∃ g b,Ends S g b:=by
 obtain ⟨r,_,h⟩:=zo7 ⟨zpc,[],S⟩ hn
 exact ⟨_,_,h⟩
theorem zn4 {c:mantle_coat} {w:Wear} {known:Int} {m:Nat} {S:List mantle_sight} (hc:CoatOk w known m S c) (x:mantle_sight) (hl:S.length≤1000000):Wp (zbK c x) (fun r=>CoatOk w known m (S++[x]) r):=by
 unfold zbK zbY
 have e:=hc.sights
 refine wp_bind (Q:=fun y=>y=S) (zck (by rw [e];simp [-List.getD_eq_getElem?_getD];omega) (zam (by rw [e];simp [-List.getD_eq_getElem?_getD]))) (fun y hy=>?_)
 subst hy
 exact zck (by simp [-List.getD_eq_getElem?_getD];omega) (zam ⟨hc.wear,hc.burns,rfl⟩)
end Go.Sp
end
/- Plain laws, mantle: the closet that hang fills. No program in sight. -/
section
set_option linter.all false
namespace Go.Sp
open Go.Av
set_option maxRecDepth 100000
def ba (w:Wear) (i:Nat):Batch:=w.Batches.getD i default
def bat (w:Wear) (i:Nat):Int:=zc5 w (mt w i).Batch
theorem zko {w:Wear} (V:WearOk w) {i:Nat} (hi:i<w.Mantles.length):0≤bat w i∧bat w i<(w.Batches.length:Int):=by
 refine ⟨?_,zl0 w _⟩
 rcases Int.lt_or_le (bat w i) 0 with h|h
 · exact absurd (V.has i hi) (zfq.1 h)
 · exact h
structure Hung (w:Wear) (known:Int) (S:Nat→List mantle_sight) (c:mantle_closet):Prop where
 wear:c.w=w
 asof:c.known=known
 coats:∀ i:Nat,i<w.Mantles.length→∃ x,c.coats.get (i:Int)=some x∧CoatOk w known i (S i) x
 len:c.lives.length=w.Batches.length
 lives:∀ b:Nat,b<w.Batches.length→∀ x,inR (c.lives.getD b default) x↔inR (ba w b).Life x∧∀ i,i<w.Mantles.length→bat w i=(b:Int)→OkBy w known i (S i) x
 nights:∀ i,i<w.Mantles.length→∀ s∈S i,0≤s.night
 few:∀ i,i<w.Mantles.length→(S i).length≤1000
def lk (l:List Look) (i:Nat):Look:=l.getD i default
def zcn (w:Wear) (known:Int) (l:List Look) (m:Nat):Nat→List mantle_sight
 | 0=>[]
 | n+1=>if fit w (lk l n).Lamp (lk l n).Night known=(m:Int)∧zat (lk l n).Known (lk l n).Until known=true then zcn w known l m n++[⟨(lk l n).Night,(lk l n).Bad⟩] else zcn w known l m n
def sights (w:Wear) (known:Int) (l:List Look) (m:Nat):List mantle_sight:=zcn w known l m l.length
theorem zd1 {w:Wear} {known:Int} {l:List Look} {m:Nat} {s:mantle_sight}:∀ {n:Nat},s∈zcn w known l m n↔∃ i,i<n∧fit w (lk l i).Lamp (lk l i).Night known=(m:Int)∧zat (lk l i).Known (lk l i).Until known=true∧s=⟨(lk l i).Night,(lk l i).Bad⟩
 | 0=>⟨fun h=>(by cases h),fun ⟨i,hi,_⟩=>absurd hi (Nat.not_lt_zero _)⟩
 | n+1=>by
  unfold zcn
  by_cases hc:fit w (lk l n).Lamp (lk l n).Night known=(m:Int)∧zat (lk l n).Known (lk l n).Until known=true
  · rw [if_pos hc,List.mem_append,List.mem_singleton,zd1]
    constructor
    · rintro (⟨i,hi,h⟩|h)
      · exact ⟨i,by omega,h⟩
      · exact ⟨n,by omega,hc.1,hc.2,h⟩
    · rintro ⟨i,hi,h⟩
      by_cases e:i=n
      · subst e;exact .inr h.2.2
      · exact .inl ⟨i,by omega,h⟩
  · rw [if_neg hc,zd1]
    constructor
    · rintro ⟨i,hi,h⟩;exact ⟨i,by omega,h⟩
    · rintro ⟨i,hi,h⟩
      by_cases e:i=n
      · subst e;exact absurd ⟨h.1,h.2.1⟩ hc
      · exact ⟨i,by omega,h⟩
theorem zhk {w:Wear} {known:Int} {l:List Look} {m:Nat}:∀ n,(zcn w known l m n).length≤n
 | 0=>by simp [-List.getD_eq_getElem?_getD,zcn]
 | n+1=>by
  unfold zcn
  have:=zhk (w:=w) (known:=known) (l:=l) (m:=m) n
  split
  · simp [-List.getD_eq_getElem?_getD];omega
  · omega
theorem zld {a b:Range} {x:Int}:inR (za0 a b) x↔inR a x∧inR b x:=by
 unfold za0 inR;simp only;omega
theorem zqQ (c:mantle_closet) (hl:c.w.Mantles.length≤60):zbS c=some ((List.range' 0 c.w.Mantles.length).map (fun i:Nat=>((i:Int),(c.coats.get (i:Int)).getD default))):=by
 unfold zbS
 rw [zeW (by omega),znU (fun _=>true) (fun i:Nat=>((i:Int),(c.coats.get (i:Int)).getD default)) (fun i r hi=>rfl)]
 rw [List.filter_eq_self.2 (fun _ _=>rfl)]
theorem zqx {A S R:Type} {body:A→S→(S→Option R)→Option R} {ex:S→Option R} {s0:S} {P:R→Prop} (n:Nat) (f:Nat→A) (Inv:Nat→S→Prop) (h0:Inv 0 s0)
 (hb:∀ (j:Nat) s (K:S→Option R),j<n→Inv j s→(∀ s',Inv (j+1) s'→Wp (K s') P)→Wp (body (f j) s K) P) (he:∀ s,Inv n s→Wp (ex s) P):Wp (ziB body ex ((List.range' 0 n).map f) s0) P:=by
 have go:∀ (m j:Nat),j+m=n→∀ s,Inv j s→Wp (ziB body ex ((List.range' j m).map f) s) P:=by
  intro m
  induction m with
  | zero=>intro j hj s hs;have e:j=n:=(by omega);subst e;exact he s hs
  | succ m ih=>
   intro j hj s hs
   rw [List.range'_succ,List.map_cons]
   exact hb j s _ (by omega) hs (fun s' h'=>ih (j+1) (by omega) s' h')
 exact go n 0 (by omega) s0 h0
theorem zos {c:mantle_closet} {b:Nat} (hb:b<c.lives.length) (r:Range):zbr c (b:Int) r=some ⟨c.w,c.known,c.coats,c.lives.set b (za0 (c.lives.getD b default) r)⟩:=by
 unfold zbr
 rw [zeW (by omega),zeW (by omega)]
 rfl
theorem Mp.zkP {T:Type} (m:Mp T) (k j:Int) (x:T):(m.set k x).get j=if j=k then some x else m.get j:=rfl
theorem zqJ {w:Wear} (V:WearOk w) {fuel:Nat} (hf:1000≤fuel) {l:List Look} (hl:l.length≤1000) (hn:∀ x∈l,0≤x.Night) (known:Int):Wp (zcL fuel w l known) (fun c=>Hung w known (sights w known l) c):=by
 have nm:=V.nm;have nb:=V.nb
 unfold zcL
 refine wp_bind (zqf V hf known) (fun y1 hy1=>zap (by omega) ?_)
 refine zeB (fun i s=>∀ j:Nat,j<i→∃ x,s.get (j:Int)=some x∧CoatOk w known j [] x) (fun j hj=>absurd hj (Nat.not_lt_zero _)) (fun i s K hi hI hK=>hK _ (fun j hj=>?_)) (fun s3 h3=>?_)
 · by_cases e:j=i
   · subst e
     exact ⟨_,by rw [Mp.zkP,if_pos rfl],rfl,hy1 _,rfl⟩
   · rw [Mp.zkP,if_neg (by omega)]
     exact hI j (by omega)
 refine zeB (fun i s=>∀ j:Nat,j<w.Mantles.length→∃ x,s.get (j:Int)=some x∧CoatOk w known j (zcn w known l j i) x) h3 (fun i s K hi hI hK=>?_) (fun s5 h5=>?_)
 · refine zau (zjA w _ _ known) ?_
   have hfl:=zoU w (l.getD i default).Lamp (l.getD i default).Night known
   refine zbw (fun h=>?_) (fun h=>hK _ (fun j hj=>?_))
   · simp only [Bool.and_eq_true,decide_eq_true_eq] at h
     obtain ⟨m,hm⟩:∃ m:Nat,fit w (l.getD i default).Lamp (l.getD i default).Night known=(m:Int):=⟨_,(Int.toNat_of_nonneg h.1).symm⟩
     rw [hm] at hfl ⊢
     obtain ⟨x,e,hx⟩:=hI m (by omega)
     rw [e]
     refine wp_bind (zn4 hx _ (by have:=zhk (w:=w) (known:=known) (l:=l) (m:=m) i;omega)) (fun y hy=>hK _ (fun j hj=>?_))
     by_cases ej:j=m
     · subst ej
       refine ⟨y,by rw [Mp.zkP,if_pos rfl],?_⟩
       unfold zcn
       rw [if_pos ⟨hm,h.2⟩]
       exact hy
     · rw [Mp.zkP,if_neg (by omega)]
       unfold zcn
       rw [if_neg (fun h'=>ej (by have:=h'.1.symm.trans hm;omega))]
       exact hI j hj
   · unfold zcn
     rw [if_neg (fun h'=>?_)]
     · exact hI j hj
     · rw [Bool.and_eq_false_iff,decide_eq_false_iff_not] at h
       rcases h with h|h
       · exact h (by have:=h'.1;unfold lk at this;omega)
       · have:=h'.2;unfold lk at this;rw [this] at h;cases h
 refine zeB (fun i s=>s.length=i∧∀ b,b<i→s.getD b default=(ba w b).Life) ⟨rfl,fun b hb=>absurd hb (Nat.not_lt_zero _)⟩ (fun i s K hi hI hK=>zck (by simp [-List.getD_eq_getElem?_getD];omega) (hK _ ⟨by simp [-List.getD_eq_getElem?_getD,hI.1],fun b hb=>?_⟩)) (fun s12 h12=>?_)
 · rw [zoQ]
   by_cases e:b=s.length
   · rw [if_pos e,e,hI.1];rfl
   · rw [if_neg e];exact hI.2 b (by omega)
 refine zau (zqQ _ nm) ?_
 refine zqx w.Mantles.length _ (fun j s=>s.length=w.Batches.length∧∀ b:Nat,b<w.Batches.length→∀ x,inR (s.getD b default) x↔inR (ba w b).Life x∧∀ i,i<j→bat w i=(b:Int)→OkBy w known i (sights w known l i) x)
  ⟨h12.1,fun b hb x=>by rw [h12.2 b hb];exact ⟨fun h=>⟨h,fun i hi=>absurd hi (Nat.not_lt_zero _)⟩,fun h=>h.1⟩⟩ (fun j s K hj hI hK=>?_) (fun s hs=>zam ?_)
 · obtain ⟨x,e,hx⟩:=h5 j hj
   have hsn:∀ y∈sights w known l j,0≤y.night:=fun y hy=>by
    obtain ⟨i,hi,_,_,e⟩:=zd1.1 hy
    rw [e];exact hn _ (zb6 hi)
   obtain ⟨g,b,he⟩:=zo8 (sights w known l j) hsn
   refine zap (by omega) (zau (zir w _) ?_)
   simp only [Int.toNat_natCast]
   have hbt:=zko V hj
   have ebt:zc5 w (w.Mantles.getD j default).Batch=bat w j:=rfl
   rw [e,ebt]
   obtain ⟨q,hq⟩:∃ q:Nat,bat w j=(q:Int):=⟨_,(Int.toNat_of_nonneg hbt.1).symm⟩
   rw [hq] at hbt ⊢
   refine zau (zm8 V hx hsn he) (zau (zos (c:=⟨w,known,s5,s⟩) (by simp only;omega) _) (zap (by simp [-List.getD_eq_getElem?_getD]) (hK _ ⟨by simp [-List.getD_eq_getElem?_getD,hI.1],fun b' hb' y=>?_⟩)))
   have hlm:=zjq V hsn he y (known:=known) (m:=(j:Int))
   simp only
   rw [zkQ _ _ _ _ _ (by omega)]
   by_cases eb:b'=q
   · subst eb
     rw [if_pos rfl,zld,hI.2 b' hb',hlm]
     constructor
     · rintro ⟨⟨a1,a2⟩,a3⟩
       refine ⟨a1,fun i hi hbi=>?_⟩
       by_cases ei:i=j
       · rw [ei];exact a3
       · exact a2 i (by omega) hbi
     · rintro ⟨a1,a2⟩
       exact ⟨⟨a1,fun i hi hbi=>a2 i (by omega) hbi⟩,a2 j (by omega) hq⟩
   · rw [if_neg eb,hI.2 b' hb']
     constructor
     · rintro ⟨a1,a2⟩
       refine ⟨a1,fun i hi hbi=>?_⟩
       by_cases ei:i=j
       · rw [ei,hq] at hbi;omega
       · exact a2 i (by omega) hbi
     · rintro ⟨a1,a2⟩
       exact ⟨a1,fun i hi hbi=>a2 i (by omega) hbi⟩
 · refine ⟨rfl,rfl,h5,hs.1,hs.2,fun i hi y hy=>?_,fun i hi=>?_⟩
   · obtain ⟨k,hk,_,_,e⟩:=zd1.1 hy
     rw [e];exact hn _ (zb6 hk)
   · exact Nat.le_trans (zhk _) hl
def zds (w:Wear) (known:Int) (S:Nat→List mantle_sight):Prop:=∀ b:Nat,b<w.Batches.length→∃ x,inR (ba w b).Life x∧∀ i,i<w.Mantles.length→bat w i=(b:Int)→OkBy w known i (S i) x
theorem znL {w:Wear} {known:Int} {S:Nat→List mantle_sight} {c:mantle_closet} (h:Hung w known S c):Wp (zaT c) (fun r=>r=true↔zds w known S):=by
 unfold zaT
 refine zau (show zbN c.lives _=_ from zeY (q:=zaX) (fun x=>rfl) _) (zam ?_)
 rw [Bool.not_eq_true',List.any_eq_false]
 constructor
 · intro h1 b hb
   have h2:=h1 _ (zb6 (l:=c.lives) (i:=b) (by rw [h.len];exact hb))
   have h3:(c.lives.getD b default).Lo≤(c.lives.getD b default).Hi:=by
    simp only [zaX,decide_eq_true_eq] at h2;omega
   exact ⟨_,(h.lives b hb _).1 ⟨Int.le_refl _,h3⟩⟩
 · intro h1 r hr
   obtain ⟨b,hb,rfl⟩:=zdR hr
   obtain ⟨x,hx⟩:=h1 b (by rw [← h.len];exact hb)
   have:=(h.lives b (by rw [← h.len];exact hb) x).2 hx
   unfold inR at this
   simp only [zaX,decide_eq_true_eq];omega
end Go.Sp
end
/- Plain laws, mantle: whether a mantle is bad. No program in sight. -/
section
set_option linter.all false
namespace Go.Sp
open Go.Av
set_option maxRecDepth 100000
def zhc (w:Wear) (known:Int) (S:Nat→List mantle_sight) (m:Nat) (night:Int) (bad:Bool):Prop:=
 ∃ x,(inR (ba w (bat w m).toNat).Life x∧∀ i,i<w.Mantles.length→bat w i=bat w m→OkBy w known i (S i) x)∧OkBy w known m (S m++[⟨night,bad⟩]) x
open Classical in
noncomputable def stateR (w:Wear) (known:Int) (S:Nat→List mantle_sight) (m:Nat) (night:Int):Int:=
 if ¬ zhc w known S m night true then 0 else if ¬ zhc w known S m night false then 1 else 2
theorem zqh {w:Wear} {known:Int} {S:Nat→List mantle_sight} {c:mantle_closet} (h:Hung w known S c) {m:Nat} (hm:m<w.Mantles.length):zbd c (m:Int)=some (bat w m):=by
 unfold zbd
 rw [h.wear,zeW (by omega)]
 refine Wp.eq (zau (zir w _) (zam ?_))
 rfl
theorem zqu {w:Wear} (V:WearOk w) {known:Int} {S:Nat→List mantle_sight} {c:mantle_closet} (h:Hung w known S c) {m:Nat} (hm:m<w.Mantles.length) {night:Int} (hn:0≤night) (bad:Bool) :
 Wp (zbZ c (m:Int) night bad) (fun r=>∀ x,inR r x↔(inR (ba w (bat w m).toNat).Life x∧∀ i,i<w.Mantles.length→bat w i=bat w m→OkBy w known i (S i) x)∧OkBy w known m (S m++[⟨night,bad⟩]) x):=by
 unfold zbZ
 have hb:=zko V hm
 obtain ⟨x,e,hx⟩:=h.coats m hm
 obtain ⟨q,hq⟩:∃ q:Nat,bat w m=(q:Int):=⟨_,(Int.toNat_of_nonneg hb.1).symm⟩
 refine zau (zqh h hm) ?_
 rw [hq] at hb ⊢
 refine zap (by rw [h.len];omega) ?_
 rw [e]
 refine wp_bind (zn4 hx _ (by have:=h.few m hm;omega)) (fun y hy=>?_)
 have hsn:∀ s∈S m++[⟨night,bad⟩],0≤s.night:=fun s hs=>by
  rcases List.mem_append.1 hs with hs|hs
  · exact h.nights m hm s hs
  · rw [List.mem_singleton] at hs;subst hs;exact hn
 obtain ⟨g,b,he⟩:=zo8 _ hsn
 refine zau (zm8 V hy hsn he) (zam (fun z=>?_))
 rw [zld,zjq V hsn he,Int.toNat_natCast,h.lives q (by omega)]
theorem zm3 {r:Range}:zaX r=true↔∀ x,¬ inR r x:=by
 unfold zaX inR
 rw [decide_eq_true_eq]
 exact ⟨fun h x hx=>by omega,fun h=>by have:=h r.Lo;omega⟩
theorem zpz {w:Wear} (V:WearOk w) {known:Int} {S:Nat→List mantle_sight} {c:mantle_closet} (h:Hung w known S c) {m:Nat} (hm:m<w.Mantles.length) {night:Int} (hn:0≤night):zaY c (m:Int) night=some (stateR w known S m night):=by
 unfold zaY
 refine Wp.eq (wp_bind (zqu V h hm hn true) (fun y1 h1=>?_))
 have e1:zaX y1=true↔¬ zhc w known S m night true:=by
  rw [zm3]
  exact ⟨fun k ⟨x,hx⟩=>k x ((h1 x).2 hx),fun k x hx=>k ⟨x,(h1 x).1 hx⟩⟩
 unfold stateR
 refine zbw (fun hb=>zam ?_) (fun hb=>wp_bind (zqu V h hm hn false) (fun y4 h4=>?_))
 · rw [if_pos (e1.1 hb)]
 have c1:¬ ¬ zhc w known S m night true:=fun k=>by rw [e1.2 k] at hb;cases hb
 rw [if_neg c1]
 have e4:zaX y4=true↔¬ zhc w known S m night false:=by
  rw [zm3]
  exact ⟨fun k ⟨x,hx⟩=>k x ((h4 x).2 hx),fun k x hx=>k ⟨x,(h4 x).1 hx⟩⟩
 refine zbw (fun hb=>zam ?_) (fun hb=>zam ?_)
 · rw [if_pos (e4.1 hb)]
 · rw [if_neg (fun k=>by rw [e4.2 k] at hb;cases hb)]
def zaH (n:Int):Prop:=0≤n∧n≤100000
instance (n:Int):Decidable (zaH n):=inferInstanceAs (Decidable (_∧_))
theorem zjv {n:Int}:zaM n=true↔zaH n:=by simp [-List.getD_eq_getElem?_getD,zaM,zaJ,zaH]
theorem zef {n:Int}:zaq n=true↔zaH n:=by simp [-List.getD_eq_getElem?_getD,zaq,zai,zaH]
theorem zlx {w:Wear} (V:WearOk w) {l:List Int} (h:∀ n∈l,zaH n):zbg w l=some 0:=by
 unfold zbg
 refine Wp.eq (zau (zjo V) (zaU (by simp [-List.getD_eq_getElem?_getD]) (zau (show zbn l _=_ from zeY (q:=zbo) (fun x=>rfl) _) ?_)))
 refine zaU ?_ (zam rfl)
 rw [List.any_eq_false]
 intro n hn
 simp [-List.getD_eq_getElem?_getD,zbo,zjv.2 (h n hn)]
theorem zke {w:Wear} (V:WearOk w) {l:List Int} (h:¬ ∀ n∈l,zaH n):zbg w l=some 6:=by
 unfold zbg
 refine Wp.eq (zau (zjo V) (zaU (by simp [-List.getD_eq_getElem?_getD]) (zau (show zbn l _=_ from zeY (q:=zbo) (fun x=>rfl) _) ?_)))
 refine za9 ?_ (zam rfl)
 rw [List.any_eq_true]
 refine Classical.byContradiction (fun k=>h (fun n hn=>?_))
 refine Classical.byContradiction (fun k2=>k ⟨n,hn,?_⟩)
 unfold zbo
 cases h3:zaM n with
 | false=>rfl
 | true=>exact absurd (zjv.1 h3) k2
theorem znH {w:Wear} (hf:Fits w) (V:¬ WearOk w) (l:List Int):zbg w l=some 64:=by
 unfold zbg
 exact Wp.eq (zau (znK hf V) (za9 (by simp [-List.getD_eq_getElem?_getD]) (zam rfl)))
def zcy (w:Wear) (lamp night known:Int):Int:=if ¬ (1≤lamp∧lamp≤999) then 1 else if ¬ (zaH night∧zaH known) then 6 else if fit w lamp night known<0 then 66 else 0
theorem zjs {w:Wear} {lamp night known:Int} (h:¬ (1≤lamp∧lamp≤999)):zcy w lamp night known=1:=by unfold zcy;exact if_pos h
theorem zjr {w:Wear} {lamp night known:Int} (h:1≤lamp∧lamp≤999) (h2:¬ (zaH night∧zaH known)):zcy w lamp night known=6:=by
 unfold zcy
 exact (if_neg (fun k=>k h)).trans (if_pos h2)
theorem zic {w:Wear} {lamp night known:Int} (h:1≤lamp∧lamp≤999) (h2:zaH night∧zaH known) (h3:fit w lamp night known<0):zcy w lamp night known=66:=by
 unfold zcy
 exact (if_neg (fun k=>k h)).trans ((if_neg (fun k=>k h2)).trans (if_pos h3))
theorem zlA {w:Wear} {lamp night known:Int} (h:1≤lamp∧lamp≤999) (h2:zaH night∧zaH known) (h3:¬ fit w lamp night known<0):zcy w lamp night known=0:=by
 unfold zcy
 exact (if_neg (fun k=>k h)).trans ((if_neg (fun k=>k h2)).trans (if_neg h3))
theorem zoI {w:Wear} (V:WearOk w) (lamp night known:Int):zdi w lamp night known=some (if zcy w lamp night known=0 then fit w lamp night known else 0,zcy w lamp night known):=by
 unfold zdi
 refine Wp.eq (zau (zjo V) (zaU (by simp [-List.getD_eq_getElem?_getD]) ?_))
 have e:(!(zaG lamp))=decide (¬ (1≤lamp∧lamp≤999)):=by
  rw [Bool.eq_iff_iff];simp [-List.getD_eq_getElem?_getD,zaG,zaJ]
 rw [e]
 refine zbM (fun h=>zam ?_) (fun h=>?_)
 · rw [zjs h];rfl
 have h:=Classical.not_not.1 h
 by_cases hn:zaH night∧zaH known
 · refine zau (zlx V (fun n hn'=>by
    simp only [List.mem_cons,List.not_mem_nil,or_false] at hn'
    rcases hn' with rfl|rfl
    · exact hn.1
    · exact hn.2)) (zaU (by simp [-List.getD_eq_getElem?_getD]) (zau (zjA w _ _ _) ?_))
   refine zbM (fun h2=>zam ?_) (fun h2=>zam ?_)
   · rw [zic h hn h2];rfl
   · rw [zlA h hn h2];rfl
 · rw [zjr h hn]
   exact zau (zke V (fun k=>hn ⟨k night (by simp [-List.getD_eq_getElem?_getD]),k known (by simp [-List.getD_eq_getElem?_getD])⟩)) (za9 (by simp [-List.getD_eq_getElem?_getD]) (zam rfl))
theorem ziC {w:Wear} {lamp night known:Int} (h:zcy w lamp night known=0):(1≤lamp∧lamp≤999)∧zaH night∧zaH known∧0≤fit w lamp night known:=by
 by_cases h1:1≤lamp∧lamp≤999
 · by_cases h2:zaH night∧zaH known
   · by_cases h3:fit w lamp night known<0
     · rw [zic h1 h2 h3] at h;omega
     · exact ⟨h1,h2.1,h2.2,by omega⟩
   · rw [zjr h1 h2] at h;omega
 · rw [zjs h1] at h;omega
theorem zoJ {w:Wear} {fuel:Nat} (hfu:100<fuel) (V:WearOk w) (lamp night known:Int):zb3 fuel w ⟨lamp,night,known⟩=some (if zcy w lamp night known=0 then mt w (fit w lamp night known).toNat else zpd,zcy w lamp night known):=by
 have nm:=V.nm
 unfold zb3
 refine Wp.eq (zau (zjf hfu V) (zaU (by simp [-List.getD_eq_getElem?_getD]) ?_))
 have e:(!(zai lamp 1 999))=decide (¬ (1≤lamp∧lamp≤999)):=by
  rw [Bool.eq_iff_iff];simp [-List.getD_eq_getElem?_getD,zai]
 simp only [e]
 refine zbM (fun h=>zam ?_) (fun h=>?_)
 · rw [zjs h];rfl
 have h:=Classical.not_not.1 h
 have e2:((!(zaq night)) || (!(zaq known)))=decide (¬ (zaH night∧zaH known)):=by
  rw [Bool.eq_iff_iff,decide_eq_true_eq,Bool.or_eq_true,Bool.not_eq_true',Bool.not_eq_true',← Bool.not_eq_true,← Bool.not_eq_true,zef,zef]
  constructor
  · rintro (h|h) ⟨h1,h2⟩
    · exact h h1
    · exact h h2
  · intro h
    by_cases h1:zaH night
    · exact .inr (fun h2=>h ⟨h1,h2⟩)
    · exact .inl h1
 rw [e2]
 refine zbM (fun h2=>zam ?_) (fun h2=>?_)
 · rw [zjr h h2];rfl
 have h2:=Classical.not_not.1 h2
 refine zau (at_eq (by omega) nm _ _ _) ?_
 unfold atR
 by_cases h3:fit w lamp night known<0
 · rw [if_pos h3,zic h h2 h3]
   exact za9 (by simp [-List.getD_eq_getElem?_getD]) (zam rfl)
 · rw [if_neg h3,zlA h h2 h3]
   exact zaU (by simp [-List.getD_eq_getElem?_getD]) (zam rfl)
end Go.Sp
end
/- Plain laws, mantle: the document's lives and states. No program in sight. -/
section
set_option linter.all false
namespace Go.Sp
open Go.Av
set_option maxRecDepth 100000
structure ToldL (known:Int) (L:List Look):Prop where
 few:L.length≤900
 night:∀ l∈L,0≤l.Night
 cnt:∀ l∈L,zat l.Known l.Until known=true
def tells (w:Wear) (known:Int) (l:Look):Bool:=decide (0≤fit w l.Lamp l.Night known) && zat l.Known l.Until known
def zjT (w:Wear) (known:Int):List Look:=w.Looks.filter (tells w known)
theorem atR_2 {w:Wear} {lamp night known:Int}:(atR w lamp night known).2=decide (0≤fit w lamp night known):=by
 unfold atR
 by_cases h:fit w lamp night known<0
 · rw [if_pos h];simp [-List.getD_eq_getElem?_getD];omega
 · rw [if_neg h];simp [-List.getD_eq_getElem?_getD];omega
theorem look_ok {w:Wear} (V:WearOk w) {l:Look} (h:l∈w.Looks):zjP l:=V.lo.ok h
theorem zj5 {w:Wear} (V:WearOk w) (known:Int):ToldL known (zjT w known):=by
 refine ⟨by have:=V.nl;have:=List.length_filter_le (tells w known) w.Looks;unfold zjT;omega,fun l hl=>?_,fun l hl=>?_⟩
 · exact (look_ok V (List.mem_filter.1 hl).1).night.1
 · have:=(List.mem_filter.1 hl).2
   unfold tells at this
   exact (Bool.and_eq_true _ _▸this).2
theorem zoh {w:Wear} (V:WearOk w) {fuel:Nat} (hf:1000≤fuel) (known:Int):zce fuel w known=some (zjT w known):=by
 have nl:=V.nl;have nm:=V.nm
 unfold zce
 refine Wp.eq (zhd w.Looks.length (by omega) (fun i s=>s=(w.Looks.take i).filter (tells w known)) rfl (fun i s K hi hI hK=>?_))
 by_cases hin:i<w.Looks.length
 · refine za9 (by simp [-List.getD_eq_getElem?_getD];omega) (zap (by simp only;omega) ?_)
   simp only [Int.toNat_natCast]
   refine zau (at_eq (by omega) nm _ _ known) ?_
   rw [atR_2]
   have e:(decide (0≤fit w (w.Looks.getD i default).Lamp (w.Looks.getD i default).Night known) && zaw (w.Looks.getD i default).Known (w.Looks.getD i default).Until known)=tells w known (w.Looks.getD i default):=rfl
   rw [e]
   have hl:s.length≤i:=by rw [hI];exact Nat.le_trans (List.length_filter_le _ _) (by rw [List.length_take];omega)
   refine zbw (fun h=>zck (by simp [-List.getD_eq_getElem?_getD];omega) (zaj (by omega) (hK _ hin ?_))) (fun h=>zaj (by omega) (hK _ hin ?_))
   · rw [zcD hin,List.filter_append,hI];simp [-List.getD_eq_getElem?_getD,h]
   · rw [zcD hin,List.filter_append,hI];simp [-List.getD_eq_getElem?_getD,h]
 · have:i=w.Looks.length:=by omega
   subst this
   exact zaU (by simp [-List.getD_eq_getElem?_getD]) (zam (by rw [hI,List.take_length];rfl))
theorem zqy {w:Wear} (V:WearOk w) {i j:Nat} (hi:i<w.Mantles.length) (hj:j<w.Mantles.length) (e:(mt w i).Source=(mt w j).Source):i=j:=V.ma.inj hi hj e
theorem zqp {w:Wear} (V:WearOk w) {i j:Nat} (hi:i<w.Batches.length) (hj:j<w.Batches.length) (e:(ba w i).Id=(ba w j).Id):i=j:=V.ba.inj hi hj e
theorem zn7 {w:Wear} (V:WearOk w) {fuel:Nat} (hf:1000≤fuel) {known:Int} {L:List Look} (hL:ToldL known L) {m:Nat} (hm:m<w.Mantles.length) :
 Wp (zb0 fuel w (mt w m) ⟨L,known⟩) (fun r=>Ends (sights w known L m) r.Good r.Bad):=by
 have nm:=V.nm;have hfew:=hL.few
 unfold zb0
 refine zhd L.length (by omega) (fun i s=>Ends (zcn w known L m i) s.Good s.Bad) ⟨fun x hx=>(by cases hx),.inl rfl,fun x hx=>(by cases hx),.inl rfl,(by decide),(by decide)⟩ (fun i s K hi hI hK=>?_)
 by_cases hin':¬ i<L.length
 · have:i=L.length:=by omega
   subst this
   exact zaU (by simp [-List.getD_eq_getElem?_getD]) (zam hI)
 have hin:=Classical.not_not.1 hin'
 refine za9 (by simp [-List.getD_eq_getElem?_getD];omega) ?_
 refine zeq (fun s'=>Ends (zcn w known L m (i+1)) s'.Good s'.Bad) (fun K2 hK2=>?_) (fun s' hs'=>zaj (by omega) (hK _ hin hs'))
 refine zap (by simp only;omega) ?_
 simp only [Int.toNat_natCast]
 refine zau (at_eq (by omega) nm _ _ known) ?_
 have hln:=hL.night _ (zb6 hin)
 have hlc:=hL.cnt _ (zb6 hin)
 have e:((!(atR w (L.getD i default).Lamp (L.getD i default).Night known).2) || (!decide ((atR w (L.getD i default).Lamp (L.getD i default).Night known).1.Source=(mt w m).Source))) = !decide (fit w (lk L i).Lamp (lk L i).Night known=(m:Int)):=by
  unfold atR lk
  have hfl:=zoU w (L.getD i default).Lamp (L.getD i default).Night known
  by_cases h:fit w (L.getD i default).Lamp (L.getD i default).Night known<0
  · rw [if_pos h];simp [-List.getD_eq_getElem?_getD];omega
  · rw [if_neg h]
    have:(mt w (fit w (L.getD i default).Lamp (L.getD i default).Night known).toNat).Source=(mt w m).Source↔fit w (L.getD i default).Lamp (L.getD i default).Night known=(m:Int):=by
     refine ⟨fun h2=>?_,fun h2=>by rw [h2];rfl⟩
     have:=zqy V (by omega) hm h2
     omega
    simp only [this,Bool.not_true,Bool.false_or]
 rw [e]
 unfold zcn at hK2
 refine zeV (fun h=>hK2 _ ?_) (fun h=>?_)
 · rw [if_neg (fun k=>h k.1)];exact hI
 rw [if_pos ⟨h,hlc⟩] at hK2
 obtain ⟨x,hx⟩:∃ x,lk L i=x:=⟨_,rfl⟩
 rw [hx] at hK2
 have hx':L.getD i default=x:=hx
 rw [hx'] at hln
 obtain ⟨h1,h2,h3,h4,h5,h6⟩:=hI
 refine zeq (fun g=>(x.Bad=true→g=s.Good)∧(x.Bad=false→g=max s.Good x.Night)) (fun K3 hK3=>?_) (fun g hg=>?_)
 · refine zbw (fun hb=>hK3 _ ?_) (fun hb=>hK3 _ ?_)
   · simp only [Bool.and_eq_true,Bool.not_eq_true',decide_eq_true_eq] at hb
     rw [hx'] at hb ⊢
     exact ⟨fun k=>(by rw [hb.1] at k;cases k),fun _=>(by omega)⟩
   · simp only [Bool.and_eq_false_iff,Bool.not_eq_false',decide_eq_false_iff_not] at hb
     rw [hx'] at hb
     exact ⟨fun _=>rfl,fun k=>(by rw [k] at hb;simp [-List.getD_eq_getElem?_getD] at hb;omega)⟩
 have key:∀ b:Int,(x.Bad=false→b=s.Bad)→(x.Bad=true→(s.Bad = -1→b=x.Night)∧(s.Bad ≠ -1→b=min s.Bad x.Night))→Ends (zcn w known L m i++[⟨x.Night,x.Bad⟩]) g b:=by
  intro b hb1 hb2
  have hmem:∀ y,y∈zcn w known L m i++[⟨x.Night,x.Bad⟩]↔y∈zcn w known L m i∨y=⟨x.Night,x.Bad⟩:=fun y=>by simp [-List.getD_eq_getElem?_getD]
  cases hxb:x.Bad with
  | false=>
   have eg:=hg.2 hxb
   have eb:=hb1 hxb
   subst eg;subst eb
   refine ⟨fun y hy hyb=>?_,?_,fun y hy hyb=>?_,?_,by omega,h6⟩
   · rw [hxb] at hmem
     rcases (hmem y).1 hy with hy|rfl
     · have:=h1 y hy hyb;omega
     · simp only;omega
   · rcases Int.le_total s.Good x.Night with hle|hle
     · exact .inr ⟨⟨x.Night,false⟩,by simp [-List.getD_eq_getElem?_getD],rfl,by simp only;omega⟩
     · rcases h2 with e|⟨y,hy,y1,y2⟩
       · exact .inr ⟨⟨x.Night,false⟩,by simp [-List.getD_eq_getElem?_getD],rfl,by simp only;omega⟩
       · exact .inr ⟨y,List.mem_append.2 (.inl hy),y1,by omega⟩
   · rw [hxb] at hmem
     rcases (hmem y).1 hy with hy|rfl
     · exact h3 y hy hyb
     · cases hyb
   · rcases h4 with e|⟨y,hy,y1,y2⟩
     · exact .inl e
     · exact .inr ⟨y,List.mem_append.2 (.inl hy),y1,y2⟩
  | true=>
   have eg:=hg.1 hxb
   have eb:=hb2 hxb
   subst eg
   refine ⟨fun y hy hyb=>?_,?_,fun y hy hyb=>?_,?_,h5,?_⟩
   · rw [hxb] at hmem
     rcases (hmem y).1 hy with hy|rfl
     · exact h1 y hy hyb
     · cases hyb
   · rcases h2 with e|⟨y,hy,y1,y2⟩
     · exact .inl e
     · exact .inr ⟨y,List.mem_append.2 (.inl hy),y1,y2⟩
   · rw [hxb] at hmem
     rcases (hmem y).1 hy with hy|rfl
     · have a:=h3 y hy hyb
       have:=eb.2 a.1
       have:=h6
       omega
     · simp only
       by_cases e:s.Bad = -1
       · have:=eb.1 e;omega
       · have:=eb.2 e;omega
   · by_cases e:s.Bad = -1
     · exact .inr ⟨⟨x.Night,true⟩,by simp [-List.getD_eq_getElem?_getD],rfl,(eb.1 e).symm⟩
     · have eb2:=eb.2 e
       obtain ⟨y,hy,y1,y2⟩:=h4.resolve_left e
       rcases Int.le_total s.Bad x.Night with hle|hle
       · exact .inr ⟨y,List.mem_append.2 (.inl hy),y1,by omega⟩
       · exact .inr ⟨⟨x.Night,true⟩,by simp [-List.getD_eq_getElem?_getD],rfl,by simp only;omega⟩
   · by_cases e:s.Bad = -1
     · have:=eb.1 e;omega
     · have:=eb.2 e;omega
 refine zbw (fun hb=>hK2 _ (key (L.getD i default).Night (fun k=>?_) (fun k=>?_))) (fun hb=>hK2 _ (key s.Bad (fun k=>rfl) (fun k=>?_)))
 · rw [Bool.and_eq_true] at hb
   have hb1:=hb.1
   rw [hx',k] at hb1;cases hb1
 · simp only [Bool.and_eq_true,Bool.or_eq_true,decide_eq_true_eq] at hb
   rw [hx'] at hb ⊢
   exact ⟨fun _=>rfl,fun _=>by omega⟩
 · simp only [Bool.and_eq_false_iff,Bool.or_eq_false_iff,decide_eq_false_iff_not] at hb
   rw [hx'] at hb
   rcases hb with hb|hb
   · rw [k] at hb;cases hb
   · exact ⟨fun e=>by omega,fun _=>by omega⟩
theorem zh4 {w:Wear} {known:Int} {L:List Look} {m:Nat} {s:mantle_sight} (h:s∈sights w known L m):∃ lamp,FitIs w lamp s.night known w.Mantles.length m:=by
 obtain ⟨i,_,h1,_,h3⟩:=zd1.1 h
 refine ⟨(lk L i).Lamp,?_⟩
 rw [h3]
 exact zoV h1
theorem ziw {w:Wear} {known:Int} {L:List Look} (hL:ToldL known L) {m:Nat} {s:mantle_sight} (h:s∈sights w known L m):0≤s.night:=by
 obtain ⟨i,hi,_,_,h3⟩:=zd1.1 h
 rw [h3];exact hL.night _ (zb6 hi)
theorem zng {w:Wear} (V:WearOk w) {fuel:Nat} (hf:1000≤fuel) {known:Int} {L:List Look} {m:Nat} {g b:Int} (he:Ends (sights w known L m) g b) (h:g ≠ -1):zaV fuel w (mt w m) ⟨g,known⟩=some ⟨zfQ w known m (-1) g,zc1 w known m (-1) g⟩:=by
 obtain ⟨s,hs,_,e⟩:=he.good.resolve_left h
 obtain ⟨lamp,hf2⟩:=zh4 hs
 rw [← e]
 exact zmi V (by omega) hf2
theorem zpm {w:Wear} (V:WearOk w) {fuel:Nat} (hf:1000≤fuel) {known:Int} {L:List Look} {m:Nat} {g b:Int} (he:Ends (sights w known L m) g b) (h:b ≠ -1):zaV fuel w (mt w m) ⟨b,known⟩=some ⟨zfQ w known m (-1) b,zc1 w known m (-1) b⟩:=by
 obtain ⟨s,hs,_,e⟩:=he.bad.resolve_left h
 obtain ⟨lamp,hf2⟩:=zh4 hs
 rw [← e]
 exact zmi V (by omega) hf2
theorem zoi {w:Wear} (V:WearOk w) {fuel:Nat} (hf:1000≤fuel) {known:Int} {L:List Look} (hL:ToldL known L) {m:Nat} (hm:m<w.Mantles.length) :
 Wp (zcf fuel w (mt w m) ⟨L,known⟩) (fun r=>∀ x,inR r x↔OkBy w known m (sights w known L m) x):=by
 unfold zcf
 refine wp_bind (zn7 V hf hL hm) (fun y1 he=>?_)
 obtain ⟨g,b⟩:=y1
 simp only at he ⊢
 have hb:=zh0 V known m
 have h0:=fun x=>zjq V (fun s hs=>ziw hL hs) he x (known:=known) (m:=(m:Int))
 have g0:=he.g0;have b0:=he.b0
 refine zeq (fun s=>s.1=(if g ≠ -1 then zfQ w known m (-1) g else 0)∧s.2.Hi=if g ≠ -1 then zc1 w known m (-1) g else 0) (fun K hK=>?_) (fun s hs=>?_)
 · refine zbM (fun h=>zau (zng V hf he (by omega)) (hK _ ⟨?_,?_⟩)) (fun h=>hK _ ⟨?_,?_⟩)
   · rw [if_pos (by omega)]
   · rw [if_pos (by omega)]
   · rw [if_neg (by omega)]
   · rw [if_neg (by omega)]
 obtain ⟨s1,s2⟩:=s
 simp only at hs ⊢
 obtain ⟨e1,e2⟩:=hs
 refine zeq (fun t=>t=(if b ≠ -1 then zc1 w known m (-1) b - 1 else 1000000)∧¬ (g ≠ -1∧b ≠ -1∧(b≤g∨zc1 w known m g b=0))) (fun K hK=>?_) (fun t ht=>zam (fun x=>?_))
 · refine zbM (fun h=>zau (zpm V hf he (by omega)) (zaj (by have:=hb (-1) b;simp only;omega) ?_)) (fun h=>hK _ ⟨?_,fun k=>?_⟩)
   · refine zbw (fun h2=>zam (fun x=>?_)) (fun h2=>hK _ ⟨?_,fun k=>?_⟩)
     · simp only [Bool.or_eq_true,decide_eq_true_eq] at h2
       refine ⟨fun h=>by unfold inR at h;simp only at h;omega,fun h=>?_⟩
       have h3:=(h0 x).2 h
       unfold zib at h3
       by_cases hg:g ≠ -1
       · rw [if_pos hg] at e2
         have hc:b≤g∨zc1 w known m g b=0:=by
          rcases h2 with h2|h2
          · exact .inl h2
          · by_cases h4:b≤g
            · exact .inl h4
            · have:=zfR (w:=w) (known:=known) (m:=(m:Int)) (a:=-1) (b:=g) (c:=b) (by omega) (by omega)
              exact .inr (by omega)
         rw [if_pos ⟨hg,by omega,hc⟩] at h3
         exact h3
       · rw [if_neg hg] at e2
         rw [if_neg (fun k=>hg k.1),if_neg hg,if_pos (by omega)] at h3
         unfold inR at h3 ⊢
         simp only at h3 ⊢
         omega
     · rw [if_pos (by omega)]
     · simp only [Bool.or_eq_false_iff,decide_eq_false_iff_not] at h2
       obtain ⟨k1,k2,k3⟩:=k
       rw [if_pos k1] at e2
       rcases k3 with k3|k3
       · exact h2.1 k3
       · have:=zfR (w:=w) (known:=known) (m:=(m:Int)) (a:=-1) (b:=g) (c:=b) (by omega) (by omega)
         omega
   · rw [if_neg (by omega)]
   · omega
 · obtain ⟨t1,t2⟩:=ht
   rw [← h0 x]
   unfold zib
   rw [if_neg t2]
   unfold inR
   simp only
   rw [e1,t1]
   have:=hb (-1) b
   by_cases hbb:b ≠ -1
   · rw [if_pos hbb,if_pos hbb]
     constructor
     · intro h;omega
     · intro h;omega
   · rw [if_neg hbb,if_neg hbb]
theorem zqH {w:Wear} (V:WearOk w) {q:Nat} (hq:q<w.Batches.length) {x:Int} (h:inR (ba w q).Life x):0≤x∧x≤1000000:=by
 have:=(V.ba q hq).1.life
 unfold inR ba at h
 omega
theorem zpQ {w:Wear} {known m x:Int} (h:0≤x∧x≤1000000):OkBy w known m [] x:=⟨h,fun s hs=>(by cases hs),fun s hs=>(by cases hs),fun s hs=>(by cases hs)⟩
theorem zpl {w:Wear} (V:WearOk w) {i q:Nat} (hi:i<w.Mantles.length) (hq:q<w.Batches.length):bat w i=(q:Int)↔(mt w i).Batch=(ba w q).Id:=by
 have hb:=zko V hi
 have e:=zl1 (w:=w) (id:=(mt w i).Batch) hb.1
 constructor
 · intro h
   rw [show zc5 w (mt w i).Batch=(q:Int) from h] at e
   exact e.symm
 · intro h
   have:=zqp V (i:=(bat w i).toNat) (by omega) hq (e.trans h)
   omega
def zg2 (w:Wear) (known:Int) (S:Nat→List mantle_sight) (q:Nat) (x:Int):Prop:=inR (ba w q).Life x∧∀ i,i<w.Mantles.length→bat w i=(q:Int)→OkBy w known i (S i) x
theorem zmU {w:Wear} (V:WearOk w) {fuel:Nat} (hf:1000≤fuel) {known:Int} {L:List Look} (hL:ToldL known L) {q:Nat} (hq:q<w.Batches.length) :
 Wp (zb1 fuel w (ba w q) ⟨L,known⟩) (fun r=>∀ x,inR r x↔zg2 w known (sights w known L) q x):=by
 have nm:=V.nm
 unfold zb1
 refine zhd w.Mantles.length (by omega) (fun i s=>∀ x,inR s x↔inR (ba w q).Life x∧∀ j,j<i→bat w j=(q:Int)→OkBy w known j (sights w known L j) x) (fun x=>⟨fun h=>⟨h,fun j hj=>absurd hj (Nat.not_lt_zero _)⟩,fun h=>h.1⟩) (fun i s K hi hI hK=>?_)
 by_cases hin':¬ i<w.Mantles.length
 · have:i=w.Mantles.length:=by omega
   subst this
   exact zaU (by simp [-List.getD_eq_getElem?_getD]) (zam hI)
 have hin:=Classical.not_not.1 hin'
 refine za9 (by simp [-List.getD_eq_getElem?_getD];omega) (zap (by simp only;omega) ?_)
 simp only [Int.toNat_natCast]
 have ext:∀ {x:Int},(∀ j,j<i+1→bat w j=(q:Int)→OkBy w known j (sights w known L j) x)↔(∀ j,j<i→bat w j=(q:Int)→OkBy w known j (sights w known L j) x)∧(bat w i=(q:Int)→OkBy w known i (sights w known L i) x):=fun {x}=>
  ⟨fun h=>⟨fun j hj=>h j (by omega),h i (by omega)⟩,fun h j hj=>by
   by_cases e:j=i
   · rw [e];exact h.2
   · exact h.1 j (by omega)⟩
 refine zbw (fun hb=>?_) (fun hb=>zaj (by omega) (hK _ hin (fun x=>?_)))
 · simp only [Bool.and_eq_true,decide_eq_true_eq] at hb
   have hbi:bat w i=(q:Int):=(zpl V hin hq).2 hb.1
   refine wp_bind (zoi V hf hL hin) (fun r hr=>?_)
   refine zbM (fun hlt=>zam (fun x=>⟨fun h=>?_,fun h=>?_⟩)) (fun hge=>zaj (by omega) (hK _ hin (fun x=>?_)))
   · unfold inR at h;omega
   · exact (hr x).2 (h.2 i hin hbi)
   · rw [show inR (⟨max s.Lo r.Lo,min s.Hi r.Hi⟩:Range) x↔inR s x∧inR r x from zld,hI,hr,ext]
     exact ⟨fun h=>⟨h.1.1,h.1.2,fun _=>h.2⟩,fun h=>⟨⟨h.1,h.2.1⟩,h.2.2 hbi⟩⟩
 · rw [hI,ext]
   refine ⟨fun h=>⟨h.1,h.2,fun hbi=>?_⟩,fun h=>⟨h.1,h.2.1⟩⟩
   have:sights w known L i=[]:=by
    rw [List.eq_nil_iff_forall_not_mem]
    intro s hs
    obtain ⟨lamp,hfi⟩:=zh4 hs
    have h1:=(zpl V hin hq).1 hbi
    have h2:=hfi.cand.2.2
    rw [Bool.and_eq_false_iff,decide_eq_false_iff_not] at hb
    rcases hb with hb|hb
    · exact hb h1
    · exact absurd (h2.symm.trans hb) (by decide)
   rw [this]
   exact zpQ (zqH V hq h.1)
theorem zob {w:Wear} (V:WearOk w) {fuel:Nat} (hf:1000≤fuel) {known:Int} {L:List Look} (hL:ToldL known L):Wp (zcd fuel w ⟨L,known⟩) (fun r=>r=true↔zds w known (sights w known L)):=by
 have nb:=V.nb
 unfold zcd
 refine zhh (n:=w.Batches.length) (by omega) (fun i=>∃ x,zg2 w known (sights w known L) i x) (fun i K hi hI hK=>?_) (fun h K=>zaU (by simp [-List.getD_eq_getElem?_getD]) (zam ⟨fun _=>h,fun _=>rfl⟩))
 refine za9 (by simp [-List.getD_eq_getElem?_getD];omega) (zap (by omega) ?_)
 simp only [Int.toNat_natCast]
 refine wp_bind (zmU V hf hL hi) (fun r hr=>?_)
 refine zbM (fun hlt=>zam ⟨fun h=>(by cases h),fun h=>?_⟩) (fun hge=>zaj (by omega) (hK ⟨r.Lo,(hr _).1 ⟨Int.le_refl _,by omega⟩⟩))
 obtain ⟨x,hx⟩:=h i hi
 have:=(hr x).2 hx
 unfold inR at this
 omega
end Go.Sp
end
/- Plain laws, mantle: states by both; MantleAges. No program in sight. -/
section
set_option linter.all false
namespace Go.Sp
open Go.Av
set_option maxRecDepth 100000
theorem zmh {w:Wear} (V:WearOk w) {fuel:Nat} (hf:1000≤fuel) {id:Int}:Wp (zbT fuel w id) (fun r=>(0≤zc5 w id∧r=(ba w (zc5 w id).toNat,true))∨(zc5 w id<0∧r.2=false)):=by
 have nb:=V.nb
 unfold zbT
 refine zhh (n:=w.Batches.length) (by omega) (fun i=>(ba w i).Id≠id) (fun i K hi _ hK=>?_) (fun h K=>zaU (by simp [-List.getD_eq_getElem?_getD]) (zam (.inr ⟨zfq.2 (fun ⟨j,hj,e⟩=>h j hj e),rfl⟩)))
 refine za9 (by simp [-List.getD_eq_getElem?_getD];omega) (zap (by omega) ?_)
 simp only [Int.toNat_natCast]
 refine zbM (fun h=>zap (by omega) (zam (.inl ?_))) (fun h=>zap (by unfold inI;omega) (hK h))
 have h0:0≤zc5 w id:=by
  rcases Int.lt_or_le (zc5 w id) 0 with h1|h1
  · exact absurd ⟨i,hi,h⟩ (zfq.1 h1)
  · exact h1
 have h1:=zl1 h0
 have h2:=zl0 w id
 have:(zc5 w id).toNat=i:=zqp V (by omega) hi (h1.trans h.symm)
 rw [this]
 exact ⟨h0,rfl⟩
theorem zlU {w:Wear} (V:WearOk w) {known:Int} {S:Nat→List mantle_sight} {m:Nat} (hm:m<w.Mantles.length) {night:Int} {bad:Bool} :
 zhc w known S m night bad↔∃ x,zg2 w known S (bat w m).toNat x∧OkBy w known m (S m++[⟨night,bad⟩]) x:=by
 have hb:=zko V hm
 have e:(((bat w m).toNat:Nat):Int)=bat w m:=by omega
 unfold zhc zg2
 rw [e]
theorem zqP {w:Wear} {known m:Int} {S:List mantle_sight} {g b x:Int} (he:Ends S g b) (h:OkBy w known m S x):(g ≠ -1→zfQ w known m (-1) g≤x)∧(b ≠ -1→x<zc1 w known m (-1) b)∧(g ≠ -1→b ≠ -1→g<b∧0<zc1 w known m g b):=by
 refine ⟨fun hg=>?_,fun hb=>?_,fun hg hb=>?_⟩
 · obtain ⟨s,hs,s1,s2⟩:=he.good.resolve_left hg
   have:=h.good s hs s1
   rwa [s2] at this
 · obtain ⟨s,hs,s1,s2⟩:=he.bad.resolve_left hb
   have:=h.bad s hs s1
   rwa [s2] at this
 · obtain ⟨s,hs,s1,s2⟩:=he.good.resolve_left hg
   obtain ⟨t,ht,t1,t2⟩:=he.bad.resolve_left hb
   have:=h.two s hs t ht s1 t1
   rwa [s2,t2] at this
theorem zpi {w:Wear} (V:WearOk w) {known:Int} {S:List mantle_sight} {m:Int} {night g b x:Int} (hn:0≤night) (hS:∀ s∈S,0≤s.night) (he:Ends S g b) (h:OkBy w known m S x) :
 OkBy w known m (S++[⟨night,true⟩]) x↔g<night∧x<zc1 w known m (-1) night∧(g ≠ -1→0<zc1 w known m g night):=by
 constructor
 · intro k
   refine ⟨?_,k.bad ⟨night,true⟩ (by simp [-List.getD_eq_getElem?_getD]) rfl,fun hg=>?_⟩
   · by_cases hg:g = -1
     · omega
     · obtain ⟨s,hs,s1,s2⟩:=he.good.resolve_left hg
       have:=(k.two s (List.mem_append.2 (.inl hs)) ⟨night,true⟩ (by simp [-List.getD_eq_getElem?_getD]) s1 rfl).1
       simp only at this;omega
   · obtain ⟨s,hs,s1,s2⟩:=he.good.resolve_left hg
     have:=(k.two s (List.mem_append.2 (.inl hs)) ⟨night,true⟩ (by simp [-List.getD_eq_getElem?_getD]) s1 rfl).2
     rw [s2] at this;exact this
 · rintro ⟨k1,k2,k3⟩
   refine ⟨h.range,fun s hs s1=>?_,fun s hs s1=>?_,fun s hs t ht s1 t1=>?_⟩
   · rcases List.mem_append.1 hs with hs|hs
     · exact h.good s hs s1
     · rw [List.mem_singleton] at hs;subst hs;cases s1
   · rcases List.mem_append.1 hs with hs|hs
     · exact h.bad s hs s1
     · rw [List.mem_singleton] at hs;subst hs;exact k2
   · rcases List.mem_append.1 hs with hs|hs
     · rcases List.mem_append.1 ht with ht|ht
       · exact h.two s hs t ht s1 t1
       · rw [List.mem_singleton] at ht;subst ht
         have a:=he.top s hs s1
         have a0:=hS s hs
         have a2:=k3 (by omega)
         have:=zeF V (known:=known) (m:=m) (f:=g) (f':=s.night) (Int.le_refl night) a
         exact ⟨by simp only;omega,by simp only;omega⟩
     · rw [List.mem_singleton] at hs;subst hs;cases s1
theorem znt {w:Wear} (V:WearOk w) {known:Int} {S:List mantle_sight} {m:Int} {night g b x:Int} (hn:0≤night) (he:Ends S g b) (h:OkBy w known m S x) :
 OkBy w known m (S++[⟨night,false⟩]) x↔zfQ w known m (-1) night≤x∧(b ≠ -1→night<b∧0<zc1 w known m night b):=by
 constructor
 · intro k
   refine ⟨k.good ⟨night,false⟩ (by simp [-List.getD_eq_getElem?_getD]) rfl,fun hb=>?_⟩
   obtain ⟨s,hs,s1,s2⟩:=he.bad.resolve_left hb
   have:=k.two ⟨night,false⟩ (by simp [-List.getD_eq_getElem?_getD]) s (List.mem_append.2 (.inl hs)) rfl s1
   rw [s2] at this;exact this
 · rintro ⟨k1,k2⟩
   refine ⟨h.range,fun s hs s1=>?_,fun s hs s1=>?_,fun s hs t ht s1 t1=>?_⟩
   · rcases List.mem_append.1 hs with hs|hs
     · exact h.good s hs s1
     · rw [List.mem_singleton] at hs;subst hs;exact k1
   · rcases List.mem_append.1 hs with hs|hs
     · exact h.bad s hs s1
     · rw [List.mem_singleton] at hs;subst hs;cases s1
   · rcases List.mem_append.1 ht with ht|ht
     · rcases List.mem_append.1 hs with hs|hs
       · exact h.two s hs t ht s1 t1
       · rw [List.mem_singleton] at hs;subst hs
         have a:=he.low t ht t1
         have a2:=k2 a.1
         have:=zeF V (known:=known) (m:=m) (f:=night) (f':=night) a.2 (Int.le_refl _)
         exact ⟨by simp only;omega,by simp only;omega⟩
     · rw [List.mem_singleton] at ht;subst ht;cases t1
theorem znx {w:Wear} (V:WearOk w) {known:Int} {S:Nat→List mantle_sight} {m:Nat} (hm:m<w.Mantles.length) {night g b:Int} (hn:0≤night) (hS:∀ s∈S m,0≤s.night) (he:Ends (S m) g b) {r:Range}
 (hr:∀ x,inR r x↔zg2 w known S (bat w m).toNat x) (hs:r.Lo≤r.Hi) :
 (zhc w known S m night true↔g<night∧r.Lo<zc1 w known m (-1) night∧(g ≠ -1→0<zc1 w known m g night)) ∧
 (zhc w known S m night false↔zfQ w known m (-1) night≤r.Hi∧(b ≠ -1→night<b∧0<zc1 w known m night b)):=by
 have hb:=zko V hm
 have hbm:bat w m=(((bat w m).toNat:Nat):Int):=by omega
 rw [zlU V hm,zlU V hm]
 constructor
 · constructor
   · rintro ⟨x,h1,h2⟩
     have h3:=(zpi V hn hS he (h1.2 m hm hbm)).1 h2
     have h4:=(hr x).2 h1
     unfold inR at h4
     exact ⟨h3.1,by omega,h3.2.2⟩
   · rintro ⟨k1,k2,k3⟩
     have h1:=(hr r.Lo).1 ⟨Int.le_refl _,hs⟩
     exact ⟨r.Lo,h1,(zpi V hn hS he (h1.2 m hm hbm)).2 ⟨k1,k2,k3⟩⟩
 · constructor
   · rintro ⟨x,h1,h2⟩
     have h3:=(znt V hn he (h1.2 m hm hbm)).1 h2
     have h4:=(hr x).2 h1
     unfold inR at h4
     exact ⟨by omega,h3.2⟩
   · rintro ⟨k1,k2⟩
     have h1:=(hr r.Hi).1 ⟨hs,Int.le_refl _⟩
     exact ⟨r.Hi,h1,(znt V hn he (h1.2 m hm hbm)).2 ⟨k1,k2⟩⟩
theorem zmS {w:Wear} {known:Int} {S:Nat→List mantle_sight} {m:Nat} {night:Int} (h:¬ zhc w known S m night true):stateR w known S m night=0:=by unfold stateR;exact if_pos h
theorem zmR {w:Wear} {known:Int} {S:Nat→List mantle_sight} {m:Nat} {night:Int} (h:zhc w known S m night true) (h2:¬ zhc w known S m night false):stateR w known S m night=1:=by unfold stateR;exact (if_neg (fun k=>k h)).trans (if_pos h2)
theorem zpA {w:Wear} {known:Int} {S:Nat→List mantle_sight} {m:Nat} {night:Int} (h:zhc w known S m night true) (h2:zhc w known S m night false):stateR w known S m night=2:=by unfold stateR;exact (if_neg (fun k=>k h)).trans (if_neg (fun k=>k h2))
theorem zoa {w:Wear} (V:WearOk w) {fuel:Nat} (hf:1000≤fuel) {known:Int} {L:List Look} (hL:ToldL known L) (hsd:zds w known (sights w known L)) {lamp night:Int} {m:Nat} (hfi:FitIs w lamp night known w.Mantles.length m) (hn:0≤night) :
 zcc fuel w (mt w m) night ⟨L,known⟩=some (stateR w known (sights w known L) m night):=by
 have hm:=hfi.lt
 have hb:=zko V hm
 unfold zcc
 refine Wp.eq (wp_bind (zn7 V hf hL hm) (fun y1 he=>?_))
 obtain ⟨g,b⟩:=y1
 simp only at he ⊢
 have g0:=he.g0;have b0:=he.b0
 have hS:∀ s∈sights w known L m,0≤s.night:=fun s hs=>ziw hL hs
 obtain ⟨r,er,hr⟩:=zmU V hf hL (q:=(bat w m).toNat) (by omega)
 have hs:r.Lo≤r.Hi:=by
  obtain ⟨x,hx⟩:=hsd (bat w m).toNat (by omega)
  have:=(hr x).2 hx
  unfold inR at this;omega
 obtain ⟨ct,cf⟩:=znx V hm hn hS he hr hs
 have hab:=zh0 V known m
 obtain ⟨x0,hx0⟩:=hsd (bat w m).toNat (by omega)
 have hok:=zqP he (hx0.2 m hm (by omega))
 refine zbM (fun h1=>zam ?_) (fun h1=>?_)
 · exact (zmS (fun k=>by have:=(ct.1 k).1;omega)).symm
 refine zbw (fun h2=>zam ?_) (fun h2=>?_)
 · simp only [Bool.and_eq_true,decide_eq_true_eq] at h2
   refine (zmR (ct.2 ⟨by omega,?_,fun hg=>?_⟩) (fun k=>?_)).symm
   · have h3:=hok.2.1 (by omega)
     have h4:=zeF V (known:=known) (m:=(m:Int)) (f:=-1) (f':=-1) h2.2 (Int.le_refl _)
     have h5:=(hr x0).2 hx0
     unfold inR at h5
     omega
   · have h3:=(hok.2.2 hg (by omega)).2
     have h4:=zeF V (known:=known) (m:=(m:Int)) (f:=g) (f':=g) h2.2 (Int.le_refl _)
     omega
   · have:=(cf.1 k).2 (by omega);omega
 rw [Bool.and_eq_false_iff,decide_eq_false_iff_not,decide_eq_false_iff_not] at h2
 have hbatch:(zc5 w (mt w m).Batch)=bat w m:=rfl
 obtain ⟨y5,e5,h5⟩:=zmh V hf (id:=(mt w m).Batch)
 rw [hbatch] at h5
 have h5:y5=(ba w (bat w m).toNat,true):=by
  rcases h5 with ⟨_,h5⟩|⟨h5,_⟩
  · exact h5
  · omega
 refine zau e5 ?_
 subst h5
 refine zau er (zau (zmi V (by omega) hfi) ?_)
 simp only
 refine zeq (fun s=>s=true↔zhc w known (sights w known L) m night true) (fun K hK=>?_) (fun s11 h11=>?_)
 · refine zbM (fun hg=>?_) (fun hg=>hK _ ?_)
   · refine zjS (Q:=fun y=>y=⟨zfQ w known m (-1) g,zc1 w known m (-1) g⟩) (fun _=>⟨_,zng V hf he (by omega),rfl⟩) (fun y hy=>hK _ ?_)
     have h6:=zfR (w:=w) (known:=known) (m:=(m:Int)) (a:=-1) (b:=g) (c:=night) (by omega) (by omega)
     rw [ct,Bool.and_eq_true,decide_eq_true_eq,decide_eq_true_eq]
     constructor
     · rintro ⟨k1,k2⟩
       rw [hy (by simpa [-List.getD_eq_getElem?_getD] using k1)] at k2
       simp only at k2
       exact ⟨by omega,k1,fun _=>by omega⟩
     · rintro ⟨k1,k2,k3⟩
       refine ⟨k2,?_⟩
       rw [hy (by simpa [-List.getD_eq_getElem?_getD] using k2)]
       have:=k3 (by omega)
       simp only;omega
   · rw [ct,decide_eq_true_eq]
     exact ⟨fun k=>⟨by omega,k,fun h=>by omega⟩,fun k=>k.2.1⟩
 refine zeq (fun s=>s=true↔zhc w known (sights w known L) m night false) (fun K hK=>?_) (fun s12 h12=>?_)
 · refine zbM (fun hbb=>?_) (fun hbb=>hK _ ?_)
   · have hlt:night<b:=by rcases h2 with h2|h2 <;> omega
     refine zjS (Q:=fun y=>y=⟨zfQ w known m (-1) b,zc1 w known m (-1) b⟩) (fun _=>⟨_,zpm V hf he (by omega),rfl⟩) (fun y hy=>hK _ ?_)
     have h6:=zfR (w:=w) (known:=known) (m:=(m:Int)) (a:=-1) (b:=night) (c:=b) (by omega) (by omega)
     rw [cf,Bool.and_eq_true,decide_eq_true_eq,decide_eq_true_eq]
     constructor
     · rintro ⟨k1,k2⟩
       rw [hy (by simpa [-List.getD_eq_getElem?_getD] using k1)] at k2
       simp only at k2
       exact ⟨k1,fun _=>⟨hlt,by omega⟩⟩
     · rintro ⟨k1,k2⟩
       refine ⟨k1,?_⟩
       rw [hy (by simpa [-List.getD_eq_getElem?_getD] using k1)]
       have:=k2 (by omega)
       simp only;omega
   · rw [cf,decide_eq_true_eq]
     exact ⟨fun k=>⟨k,fun h=>by omega⟩,fun k=>k.1⟩
 refine zbw (fun h=>zam ?_) (fun h=>zbw (fun h'=>zam ?_) (fun h'=>zam ?_))
 · rw [Bool.and_eq_true] at h
   exact (zpA (h11.1 h.1) (h12.1 h.2)).symm
 · rw [h'] at h
   exact (zmR (h11.1 h') (fun k=>by rw [h12.2 k] at h;cases h)).symm
 · exact (zmS (fun k=>by rw [h11.2 k] at h';cases h')).symm
end Go.Sp
end
/- Plain laws, mantle: State, Age, Fitted by both; MantleAges. No program in sight. -/
section
set_option linter.all false
namespace Go.Sp
open Go.Av
set_option maxRecDepth 100000
def zmd (w:Wear) (known:Int) (m:Nat) (l:Look):Bool:=decide (fit w l.Lamp l.Night known=(m:Int)) && zat l.Known l.Until known
def toS (l:Look):mantle_sight:=⟨l.Night,l.Bad⟩
theorem zka {w:Wear} {known:Int} {l:List Look} {m:Nat}:∀ {n:Nat},n≤l.length→zcn w known l m n=((l.take n).filter (zmd w known m)).map toS
 | 0,_=>rfl
 | n+1,h=>by
  rw [zcD (by omega),List.filter_append,List.map_append,← zka (by omega)]
  rw [show zcn w known l m (n+1)=if fit w (lk l n).Lamp (lk l n).Night known=(m:Int)∧zat (lk l n).Known (lk l n).Until known=true then zcn w known l m n++[⟨(lk l n).Night,(lk l n).Bad⟩] else zcn w known l m n from rfl]
  by_cases hc:fit w (lk l n).Lamp (lk l n).Night known=(m:Int)∧zat (lk l n).Known (lk l n).Until known=true
  · have:zmd w known m (l.getD n default)=true:=by unfold zmd;rw [Bool.and_eq_true,decide_eq_true_eq];exact hc
    rw [if_pos hc];simp [-List.getD_eq_getElem?_getD,this,toS,lk]
  · have:zmd w known m (l.getD n default)=false:=by
     rw [← Bool.not_eq_true];unfold zmd;rw [Bool.and_eq_true,decide_eq_true_eq];exact hc
    rw [if_neg hc];simp [-List.getD_eq_getElem?_getD,this]
theorem zhH (w:Wear) (known:Int) (l:List Look) (m:Nat):sights w known l m=(l.filter (zmd w known m)).map toS:=by
 unfold sights
 rw [zka (Nat.le_refl _),List.take_length]
theorem zf5 (w:Wear) (known:Int):sights w known (zjT w known)=sights w known w.Looks:=by
 funext m
 rw [zhH,zhH]
 unfold zjT
 rw [List.filter_filter]
 congr 1
 refine List.filter_congr (fun l _=>?_)
 unfold zmd tells
 rw [Bool.eq_iff_iff]
 simp only [Bool.and_eq_true,decide_eq_true_eq]
 constructor
 · rintro ⟨h1,_⟩;exact h1
 · rintro ⟨h1,h2⟩;exact ⟨⟨h1,h2⟩,by omega,h2⟩
theorem zoD {w:Wear} (V:WearOk w):w.Looks.length≤1000∧∀ x∈w.Looks,0≤x.Night:=⟨by have:=V.nl;omega,fun x hx=>(look_ok V hx).night.1⟩
abbrev allS (w:Wear) (known:Int):Nat→List mantle_sight:=sights w known w.Looks
theorem zpB {w:Wear} (V:WearOk w) {fuel:Nat} (hf:1000≤fuel) (known:Int):Wp (zdI fuel w known) (fun r=>(zds w known (allS w known)∧r.2=0∧Hung w known (allS w known) r.1)∨(¬ zds w known (allS w known)∧r.2=65)):=by
 unfold zdI
 refine wp_bind (zqJ V hf (zoD V).1 (zoD V).2 known) (fun c hc=>wp_bind (znL hc) (fun b hb=>?_))
 refine zbw (fun h=>zam (.inr ⟨fun k=>?_,rfl⟩)) (fun h=>zam (.inl ⟨hb.1 (by simpa [-List.getD_eq_getElem?_getD] using h),rfl,hc⟩))
 rw [hb.2 k] at h;cases h
open Classical in
noncomputable def stateV (w:Wear) (lamp night known:Int):Int×Int:=
 if zcy w lamp night known≠0 then (0,zcy w lamp night known) else if zds w known (allS w known) then (stateR w known (allS w known) (fit w lamp night known).toNat night,0) else (0,65)
theorem zj8 {w:Wear} {lamp night known:Int} (h:zcy w lamp night known≠0):stateV w lamp night known=(0,zcy w lamp night known):=by unfold stateV;exact if_pos h
theorem zlk {w:Wear} {lamp night known:Int} (h:zcy w lamp night known=0) (h2:zds w known (allS w known)):stateV w lamp night known=(stateR w known (allS w known) (fit w lamp night known).toNat night,0):=by unfold stateV;exact (if_neg (fun k=>k h)).trans (if_pos h2)
theorem ziv {w:Wear} {lamp night known:Int} (h:zcy w lamp night known=0) (h2:¬ zds w known (allS w known)):stateV w lamp night known=(0,65):=by unfold stateV;exact (if_neg (fun k=>k h)).trans (if_neg h2)
theorem zlz {w:Wear} (V:WearOk w) {fuel:Nat} (hf:1000≤fuel) (lamp night known:Int):zcK fuel w lamp night known=some (stateV w lamp night known):=by
 unfold zcK
 refine Wp.eq (zau (zoI V lamp night known) ?_)
 refine zeV (fun h=>zam (zj8 h).symm) (fun h=>?_)
 have h:zcy w lamp night known=0:=h
 obtain ⟨h1,h2,h3,h4⟩:=ziC h
 simp only [h,if_true]
 have hlt:=zoU w lamp night known
 obtain ⟨m,hm⟩:∃ m:Nat,fit w lamp night known=(m:Int):=⟨_,(Int.toNat_of_nonneg h4).symm⟩
 refine wp_bind (zpB V hf known) (fun r hr=>?_)
 rcases hr with ⟨k1,k2,k3⟩|⟨k1,k2⟩
 · refine zeV (fun h=>absurd k2 h) (fun _=>?_)
   rw [hm] at hlt ⊢
   refine zau (zpz V k3 (by omega) h2.1) (zam ?_)
   rw [zlk h k1,hm,Int.toNat_natCast]
 · refine zeV (fun _=>zam ?_) (fun h=>by omega)
   rw [ziv h k1,k2]
theorem zpE {w:Wear} (V:WearOk w) {fuel:Nat} (hf:1000≤fuel) (known:Int):zcw fuel w known=some ⟨zjT w known,known⟩:=by
 unfold zcw
 exact Wp.eq (zau (zoh V hf known) (zam rfl))
theorem zlr {w:Wear} (V:WearOk w) {fuel:Nat} (hf:1000≤fuel) (lamp night known:Int):zbL fuel w ⟨lamp,night,known⟩=some (stateV w lamp night known):=by
 unfold zbL
 refine Wp.eq (zau (zoJ (by omega) V lamp night known) ?_)
 refine zeV (fun h=>zam (zj8 h).symm) (fun h=>?_)
 have h:zcy w lamp night known=0:=h
 obtain ⟨h1,h2,h3,h4⟩:=ziC h
 simp only [h,if_true]
 obtain ⟨m,hm⟩:∃ m:Nat,fit w lamp night known=(m:Int):=⟨_,(Int.toNat_of_nonneg h4).symm⟩
 refine zau (zpE V hf known) (wp_bind (zob V hf (zj5 V known)) (fun b hb=>?_))
 rw [zf5] at hb
 refine zbw (fun k=>zam ?_) (fun k=>?_)
 · exact (ziv h (fun k2=>by rw [hb.2 k2] at k;cases k)).symm
 · have hs:=hb.1 (by simpa [-List.getD_eq_getElem?_getD] using k)
   rw [hm,Int.toNat_natCast]
   refine zau (zoa V hf (zj5 V known) (by rw [zf5];exact hs) (zoV hm) h2.1) (zam ?_)
   rw [zlk h hs,hm,Int.toNat_natCast,zf5]
end Go.Sp
end
/- Plain laws, mantle: Life, Sound, Clash by both. No program in sight. -/
section
set_option linter.all false
namespace Go.Sp
open Go.Av
set_option maxRecDepth 100000
theorem zqi {w:Wear} (V:WearOk w) {fuel:Nat} (hf:100<fuel) {a b:Int} (h:zaH a∧zaH b):za4 fuel w ⟨a,b⟩=some 0:=by
 unfold za4
 refine Wp.eq (zau (zjf hf V) (zaU (by simp [-List.getD_eq_getElem?_getD]) (zaU ?_ (zam rfl))))
 simp [-List.getD_eq_getElem?_getD,zef.2 h.1,zef.2 h.2]
theorem zpo {w:Wear} (V:WearOk w) {fuel:Nat} (hf:100<fuel) {a b:Int} (h:¬ (zaH a∧zaH b)):za4 fuel w ⟨a,b⟩=some 6:=by
 unfold za4
 refine Wp.eq (zau (zjf hf V) (zaU (by simp [-List.getD_eq_getElem?_getD]) (za9 ?_ (zam rfl))))
 simp only [Bool.or_eq_true,Bool.not_eq_true',← Bool.not_eq_true,zef]
 by_cases h1:zaH a
 · exact .inr (fun h2=>h ⟨h1,h2⟩)
 · exact .inl h1
theorem zpn {w:Wear} (V:¬ WearOk w) {fuel:Nat} (hf:100<fuel) (n:Arr2 Int):za4 fuel w n=some 64:=by
 unfold za4
 exact Wp.eq (zau (znA hf V) (za9 (by simp [-List.getD_eq_getElem?_getD]) (zam rfl)))
structure LifeV (w:Wear) (known:Int) (id:Int) (r:Range×Int):Prop where
 inv:¬ WearOk w→r=(⟨0,0⟩,64)
 day:WearOk w→¬ zaH known→r=(⟨0,0⟩,6)
 none:WearOk w→zaH known→zc5 w id<0→r=(⟨0,0⟩,3)
 fals:WearOk w→zaH known→0≤zc5 w id→¬ zds w known (allS w known)→r=(⟨0,0⟩,65)
 ok:WearOk w→zaH known→0≤zc5 w id→zds w known (allS w known)→r.2=0∧∀ x,inR r.1 x↔zg2 w known (allS w known) (zc5 w id).toNat x
structure SoundV (w:Wear) (known:Int) (r:Bool×Int):Prop where
 inv:¬ WearOk w→r=(false,64)
 day:WearOk w→¬ zaH known→r=(false,6)
 ok:WearOk w→zaH known→r.2=0∧(r.1=true↔zds w known (allS w known))
def without (l:List Look) (i:Nat):List Look:=l.take i++l.drop (i+1)
open Classical in
noncomputable def clashF (w:Wear) (known:Int):Nat→List Look→List Look
 | 0,l=>l
 | n+1,l=>if zds w known (sights w known (without l n)) then clashF w known n l else clashF w known n (without l n)
structure ClashV (w:Wear) (known:Int) (r:List Int×Int):Prop where
 inv:¬ WearOk w→r=([],64)
 day:WearOk w→¬ zaH known→r=([],6)
 none:WearOk w→zaH known→zds w known (allS w known)→r=([],3)
 ok:WearOk w→zaH known→¬ zds w known (allS w known)→r=((clashF w known (zjT w known).length (zjT w known)).map (·.Source),0)
end Go.Sp
end
/- Plain laws, mantle: CheckClash by both; MantleLives. No program in sight. -/
section
set_option linter.all false
namespace Go.Sp
open Go.Av
set_option maxRecDepth 100000
structure Picks (w:Wear) (known:Int) (q:List Int) (n:Nat) (s:List Look):Prop where
 len:s.length=n
 mem:∀ j,j<n→lk s j∈zjT w known∧(lk s j).Source=q.getD j default
 ris:∀ j,0<j→j<n→q.getD (j - 1) default<q.getD j default
theorem Picks.all {w:Wear} {known:Int} {q:List Int} {n:Nat} {s:List Look} (h:Picks w known q n s):∀ l∈s,l∈zjT w known:=fun l hl=>by
 obtain ⟨i,hi,e⟩:=zdR hl
 have:=(h.mem i (by have:=h.len;omega)).1
 unfold lk at this
 rwa [e] at this
def CC (w:Wear) (known:Int) (q:List Int):Prop:=∃ s,Picks w known q q.length s∧¬ zds w known (sights w known s)∧∀ i,i<s.length→zds w known (sights w known (without s i))
structure CheckV (w:Wear) (known:Int) (q:List Int) (r:Int):Prop where
 inv:¬ WearOk w→r=64
 day:WearOk w→¬ zaH known→r=6
 yes:WearOk w→zaH known→CC w known q→r=0
 no:WearOk w→zaH known→¬ CC w known q→r=68
theorem zn9 (l:List Int) {fuel:Nat} (hf:l.length<fuel) (hl:l.length≤9223372036854775807):zbs fuel l l=some true:=by
 unfold zbs
 have e:(decide (((l.length:Nat):Int)=((l.length:Nat):Int)))=true:=by simp [-List.getD_eq_getElem?_getD]
 rw [e]
 refine Wp.eq (zqw l.length hf (fun i (s:Bool)=>s=true) rfl (fun i s K hi hI hK=>?_))
 subst hI
 by_cases hin:i<l.length
 · exact za9 (by simp [-List.getD_eq_getElem?_getD];omega) (zap (by simp only;omega) (zap (by simp only;omega) (zaj (by simp only;omega) (hK _ hin (by simp [-List.getD_eq_getElem?_getD])))))
 · exact zaU (by simp [-List.getD_eq_getElem?_getD];omega) (zam rfl)
end Go.Sp
end
/- Plain laws, mantle: slices.Compact; a wear without a source; Moved by both; MantleMoves. No program in sight. -/
section
set_option linter.all false
namespace Go.Sp
open Go.Av
set_option maxRecDepth 100000
theorem zqV {l:List Int} (h:∀ i,0<i→i<l.length→l.getD (i - 1) default<l.getD i default):l.Pairwise (· < ·):=zkt (fun x:Int=>x) h
theorem zpT {l:List Int} (h:l.Pairwise (· < ·)) {i j:Nat} (hij:i<j) (hj:j<l.length):l.getD i default<l.getD j default:=zhG (f:=fun x:Int=>x) h hij hj
theorem leAdj {l:List Int} (h:l.Pairwise (· ≤ ·)) {i:Nat} (h0:0<i) (hi:i<l.length):l.getD (i - 1) default≤l.getD i default:=by
 have:=List.pairwise_iff_getElem.1 h (i - 1) i (by omega) hi (by omega)
 rw [List.getD_eq_getElem?_getD,List.getD_eq_getElem?_getD,List.getElem?_eq_getElem hi,List.getElem?_eq_getElem (by omega)]
 exact this
theorem zfy {l:List Int} {i:Nat} (hi:i<l.length) (x:Int):x∈l.take (i+1)↔x∈l.take i∨x=l.getD i default:=by rw [zcD hi];simp only [List.mem_append,List.mem_singleton]
theorem znV {fuel:Nat} (hf:1000≤fuel) {l:List Int} (hl:l.length≤900) (hs:l.Pairwise (· ≤ ·)):Wp (zcr fuel l) (fun r=>r.Pairwise (· < ·)∧(∀ x,x∈r↔x∈l)∧r.length≤l.length):=by
 unfold zcr
 refine zbM (fun h=>zam ⟨zqV (fun i h0 hi=>by omega),fun x=>Iff.rfl,Nat.le_refl _⟩) (fun h=>?_)
 refine wp_loop (fun s=>∃ k:Nat,s=(k:Int)∧1≤k∧k≤l.length∧∀ j,0<j→j<k→l.getD (j - 1) default<l.getD j default) (fun s=>l.length - s.toNat) (by omega) ⟨1,rfl,Nat.le_refl _,by omega,fun j h0 hj=>by omega⟩ (fun s K hI hK=>?_)
 obtain ⟨k,rfl,k1,k2,k3⟩:=hI
 by_cases hk':¬ k<l.length
 · have:k=l.length:=by omega
   subst this
   exact zaU (by simp [-List.getD_eq_getElem?_getD]) (zam ⟨zqV k3,fun x=>Iff.rfl,Nat.le_refl _⟩)
 have hk:=Classical.not_not.1 hk'
 refine za9 (by simp [-List.getD_eq_getElem?_getD];omega) (zap (by omega) (zaj (by omega) (zap (by omega) ?_)))
 have e:((k:Int) - 1).toNat=k - 1:=by omega
 rw [e,Int.toNat_natCast]
 have hle:=leAdj hs (i:=k) (by omega) hk
 refine zbM (fun he=>?_) (fun hne=>zaj (by omega) (hK _ ⟨k+1,by simp [-List.getD_eq_getElem?_getD],by omega,by omega,fun j h0 hj=>?_⟩ (by omega)))
 · have hst:(l.take k).Pairwise (· < ·):=by
    refine zqV (fun i h0 hi=>?_)
    rw [List.length_take] at hi
    rw [getD_take,getD_take,if_pos (by omega),if_pos (by omega)]
    exact k3 i h0 (by omega)
   refine zap (by omega) ?_
   refine wp_loop (fun s=>∃ (i j:Nat),s.1=(i:Int)∧s.2.1=(j:Int)∧0<i∧i+1≤k+j∧1≤j∧k+j≤l.length∧s.2.2.length=l.length∧(∀ q,k+j≤q+1→s.2.2.getD q default=l.getD q default)∧(s.2.2.take i).Pairwise (· < ·)∧(∀ x,x∈s.2.2.take i↔x∈l.take (k+j))∧s.2.2.getD (i - 1) default=l.getD (k+j - 1) default)
    (fun s=>l.length - s.2.1.toNat) (by simp only;omega) ⟨k,1,rfl,rfl,by omega,by omega,Nat.le_refl _,by omega,rfl,fun q _=>rfl,hst,fun x=>?_,he.symm⟩ (fun s K2 hI2 hK2=>?_)
   · rw [zfy hk,he]
     refine ⟨fun h=>.inl h,fun h=>h.elim id (fun h=>?_)⟩
     rw [h]
     have:(l.take k).getD (k - 1) default∈l.take k:=zb6 (by rw [List.length_take];omega)
     rwa [getD_take,if_pos (by omega)] at this
   · obtain ⟨a,b,cur⟩:=s
     obtain ⟨i,j,i1,i2,i3,i4,i5,i6,i7,i8,i9,i10,i11⟩:=hI2
     simp only at i1 i2 i7 i8 i9 i10 i11 hK2 ⊢
     subst i1;subst i2
     by_cases hj':¬ k+j<l.length
     · have ek:k+j=l.length:=by omega
       refine zaU (by simp [-List.getD_eq_getElem?_getD];omega) (zap (by omega) (zap (by rw [zbP];omega) (zam ?_)))
       rw [Int.toNat_natCast,zi9 _ _ _ _ (by omega)]
       refine ⟨i9,fun x=>?_,by rw [List.length_take];omega⟩
       rw [i10,ek,List.take_length]
     have hj:=Classical.not_not.1 hj'
     have e2:((j:Int) - 1).toNat=j - 1:=by omega
     refine za9 (by simp [-List.getD_eq_getElem?_getD];omega) (zap (by omega) (zaj (by omega) (zap (by omega) ?_)))
     rw [e2,Int.toNat_natCast,i8 (k+j) (by omega),i8 (k+(j - 1)) (by omega)]
     have e3:k+(j - 1)=k+j - 1:=by omega
     rw [e3]
     have hle2:=leAdj hs (i:=k+j) (by omega) hj
     have hmt:=zfy hj
     refine zeV (fun hne=>zap (by omega) (zap (by omega) (zaj (by omega) (zaj (by omega) (hK2 _ ⟨i+1,j+1,by simp [-List.getD_eq_getElem?_getD],by simp [-List.getD_eq_getElem?_getD],by omega,by omega,by omega,by omega,by simp only [List.length_set];exact i7,fun q hq=>?_,?_,fun x=>?_,?_⟩ (by simp only;omega)))))) (fun heq=>zaj (by omega) (hK2 _ ⟨i,j+1,by simp [-List.getD_eq_getElem?_getD],by simp [-List.getD_eq_getElem?_getD],i3,by omega,by omega,by omega,i7,fun q hq=>i8 q (by omega),i9,fun x=>?_,?_⟩ (by simp only;omega)))
     · simp only [Int.toNat_natCast]
       rw [zkQ _ _ _ _ _ (by omega),if_neg (by omega)]
       exact i8 q (by omega)
     · simp only [Int.toNat_natCast]
       rw [zhi (by omega),List.pairwise_append]
       refine ⟨i9,List.pairwise_singleton _ _,fun y hy z hz=>?_⟩
       rw [List.mem_singleton] at hz
       rw [hz]
       obtain ⟨q,hq,rfl⟩:=zdR hy
       rw [List.length_take] at hq
       have h1:(cur.take i).getD q default≤cur.getD (i - 1) default:=by
        have e5:cur.getD (i - 1) default=(cur.take i).getD (i - 1) default:=by rw [getD_take,if_pos (by omega)]
        rw [e5]
        by_cases eq:q=i - 1
        · rw [eq];exact Int.le_refl _
        · have:=zpT i9 (i:=q) (j:=i - 1) (by omega) (by rw [List.length_take];omega)
          omega
       omega
     · simp only [Int.toNat_natCast]
       rw [zhi (by omega),List.mem_append,List.mem_singleton,i10,show k+(j+1)=k+j+1 by omega,hmt]
     · simp only [Int.toNat_natCast]
       rw [show i+1 - 1=i by omega,zkQ _ _ _ _ _ (by omega),if_pos rfl,show k+(j+1) - 1=k+j by omega]
     · rw [i10,show k+(j+1)=k+j+1 by omega,hmt]
       refine ⟨fun h=>.inl h,fun h=>h.elim id (fun h=>?_)⟩
       rw [h,heq]
       have:(l.take (k+j)).getD (k+j - 1) default∈l.take (k+j):=zb6 (by rw [List.length_take];omega)
       rwa [getD_take,if_pos (by omega)] at this
     · rw [i11,show k+(j+1) - 1=k+j by omega];exact heq.symm
 · by_cases ej:j=k
   · rw [ej];omega
   · exact k3 j h0 (by omega)
def zg4 (w:Wear) (src:Int):Wear:=⟨w.Batches,w.Mantles.filter (fun m=>!decide (m.Source=src)),w.Burns.filter (fun b=>!decide (b.Source=src)),w.Looks.filter (fun l=>!decide (l.Source=src))⟩
theorem zhv {T:Type} [Inhabited T] {ok:T→Prop} {num:T→Int} {l:List T} (h:zh2 ok num l) (p:T→Bool):zh2 ok num (l.filter p):=by
 have hs:(l.filter p).Pairwise (fun a b=>num a<num b):=List.Pairwise.sublist List.filter_sublist h.sorted
 intro i hi
 refine ⟨h.ok (List.mem_filter.1 (zb6 hi)).1,fun h0=>zhG hs (by omega) hi⟩
theorem zna {w:Wear} (V:WearOk w) (src:Int):WearOk (zg4 w src):=by
 refine ⟨V.nb,Nat.le_trans (List.length_filter_le _ _) V.nm,Nat.le_trans (List.length_filter_le _ _) V.nu,Nat.le_trans (List.length_filter_le _ _) V.nl,V.ba,zhv V.ma _,zhv V.bu _,zhv V.lo _,fun i hi=>?_⟩
 have:=(List.mem_filter.1 (zb6 hi)).1
 obtain ⟨j,hj,e⟩:=zdR this
 obtain ⟨q,hq,eq⟩:=V.has j hj
 exact ⟨q,hq,eq.trans (congrArg Mantle.Batch e)⟩
def total (w:Wear):Nat:=w.Mantles.length+w.Burns.length+w.Looks.length
theorem zpy (w:Wear) (src:Int):total (zg4 w src)≤total w:=by
 unfold total zg4
 have h1:=List.length_filter_le (fun m:Mantle=>!decide (m.Source=src)) w.Mantles
 have h2:=List.length_filter_le (fun m:Burn=>!decide (m.Source=src)) w.Burns
 have h3:=List.length_filter_le (fun m:Look=>!decide (m.Source=src)) w.Looks
 simp only
 omega
theorem zmj {w:Wear} (V:WearOk w) {fuel:Nat} (hf:1000≤fuel) (src:Int):zbU fuel w src=some (zg4 w src,decide (total (zg4 w src)<total w)):=by
 have nb:=V.nb;have nm:=V.nm;have nu:=V.nu;have nl:=V.nl
 unfold zbU
 refine Wp.eq (zck (by simp [-List.getD_eq_getElem?_getD];omega) ?_)
 refine zhd w.Mantles.length (by omega) (fun i s=>s=(w.Mantles.take i).filter (fun m=>!decide (m.Source=src))) rfl (fun i s K hi hI hK=>?_)
 have hl1:s.length≤60:=by rw [hI];exact Nat.le_trans (List.length_filter_le _ _) (by rw [List.length_take];omega)
 by_cases hin:i<w.Mantles.length
 · refine za9 (by simp [-List.getD_eq_getElem?_getD];omega) (zap (by simp only;omega) ?_)
   simp only [Int.toNat_natCast]
   refine zeV (fun h=>zap (by omega) (zck (by rw [List.length_append];simp only [List.length_cons,List.length_nil];omega) (zaj (by omega) (hK _ hin ?_)))) (fun h=>zaj (by omega) (hK _ hin ?_))
   · rw [zcD hin,List.filter_append,hI,List.filter_cons_of_pos (p:=fun m:Mantle=>!decide (m.Source=src)) (by simp [-List.getD_eq_getElem?_getD,h]),List.filter_nil]
   · rw [zcD hin,List.filter_append,hI,List.filter_cons_of_neg (p:=fun m:Mantle=>!decide (m.Source=src)) (by simp [-List.getD_eq_getElem?_getD,h]),List.filter_nil,List.append_nil]
 have e1:i=w.Mantles.length:=by omega
 subst e1
 rw [List.take_length] at hI
 refine zaU (by simp [-List.getD_eq_getElem?_getD]) ?_
 refine zhd w.Burns.length (by omega) (fun i s=>s=(w.Burns.take i).filter (fun m=>!decide (m.Source=src))) rfl (fun i t K2 hi2 hI2 hK2=>?_)
 have hl2:t.length≤60:=by rw [hI2];exact Nat.le_trans (List.length_filter_le _ _) (by rw [List.length_take];omega)
 by_cases hin2:i<w.Burns.length
 · refine za9 (by simp [-List.getD_eq_getElem?_getD];omega) (zap (by simp only;omega) ?_)
   simp only [Int.toNat_natCast]
   refine zeV (fun h=>zap (by omega) (zck (by rw [List.length_append];simp only [List.length_cons,List.length_nil];omega) (zaj (by omega) (hK2 _ hin2 ?_)))) (fun h=>zaj (by omega) (hK2 _ hin2 ?_))
   · rw [zcD hin2,List.filter_append,hI2,List.filter_cons_of_pos (p:=fun m:Burn=>!decide (m.Source=src)) (by simp [-List.getD_eq_getElem?_getD,h]),List.filter_nil]
   · rw [zcD hin2,List.filter_append,hI2,List.filter_cons_of_neg (p:=fun m:Burn=>!decide (m.Source=src)) (by simp [-List.getD_eq_getElem?_getD,h]),List.filter_nil,List.append_nil]
 have e2:i=w.Burns.length:=by omega
 subst e2
 rw [List.take_length] at hI2
 refine zaU (by simp [-List.getD_eq_getElem?_getD]) ?_
 refine zhd w.Looks.length (by omega) (fun i s=>s=(w.Looks.take i).filter (fun m=>!decide (m.Source=src))) rfl (fun i u K3 hi3 hI3 hK3=>?_)
 have hl3:u.length≤60:=by rw [hI3];exact Nat.le_trans (List.length_filter_le _ _) (by rw [List.length_take];omega)
 by_cases hin3:i<w.Looks.length
 · refine za9 (by simp [-List.getD_eq_getElem?_getD];omega) (zap (by simp only;omega) ?_)
   simp only [Int.toNat_natCast]
   refine zeV (fun h=>zap (by omega) (zck (by rw [List.length_append];simp only [List.length_cons,List.length_nil];omega) (zaj (by omega) (hK3 _ hin3 ?_)))) (fun h=>zaj (by omega) (hK3 _ hin3 ?_))
   · rw [zcD hin3,List.filter_append,hI3,List.filter_cons_of_pos (p:=fun m:Look=>!decide (m.Source=src)) (by simp [-List.getD_eq_getElem?_getD,h]),List.filter_nil]
   · rw [zcD hin3,List.filter_append,hI3,List.filter_cons_of_neg (p:=fun m:Look=>!decide (m.Source=src)) (by simp [-List.getD_eq_getElem?_getD,h]),List.filter_nil,List.append_nil]
 have e3:i=w.Looks.length:=by omega
 subst e3
 rw [List.take_length] at hI3
 refine zaU (by simp [-List.getD_eq_getElem?_getD]) (zaj (by simp only;omega) (zaj (by simp only;omega) (zaj (by omega) (zaj (by omega) (zam ?_)))))
 simp only [hI,hI2,hI3]
 refine Prod.ext (by simp [-List.getD_eq_getElem?_getD,zg4]) ?_
 simp only
 rw [decide_eq_decide]
 unfold total zg4
 simp only
 omega
end Go.Sp
end
/- Plain laws, mantle: Moved by both; MantleMoves. No program in sight. -/
section
set_option linter.all false
namespace Go.Sp
open Go.Av
set_option maxRecDepth 100000
theorem zon {w:Wear} (V:WearOk w) {fuel:Nat} (hf:1000≤fuel):Wp (zch fuel w) (fun r=>r.Pairwise (· < ·)∧(∀ x,x∈r↔∃ j,j<w.Mantles.length∧(mt w j).Lamp=x)∧r.length≤60):=by
 have nm:=V.nm
 unfold zch
 refine zhd w.Mantles.length (by omega) (fun i s=>s.Pairwise (· < ·)∧(∀ x,x∈s↔∃ j,j<i∧(mt w j).Lamp=x)∧s.length≤i) ⟨List.Pairwise.nil,fun x=>⟨fun h=>(by cases h),fun ⟨j,hj,_⟩=>absurd hj (Nat.not_lt_zero _)⟩,Nat.le_refl _⟩ (fun i s K hi hI hK=>?_)
 obtain ⟨h1,h2,h3⟩:=hI
 by_cases hin:i<w.Mantles.length
 · refine za9 (by simp [-List.getD_eq_getElem?_getD];omega) ?_
   simp only [Int.toNat_natCast]
   have ext:∀ {x:Int},(∃ j,j<i+1∧(mt w j).Lamp=x)↔(∃ j,j<i∧(mt w j).Lamp=x)∨x=(mt w i).Lamp:=fun {x}=>by
    constructor
    · rintro ⟨j,hj,e⟩
      by_cases ej:j=i
      · right;rw [← e,ej]
      · exact .inl ⟨j,by omega,e⟩
    · rintro (⟨j,hj,e⟩|e)
      · exact ⟨j,by omega,e⟩
      · exact ⟨i,by omega,e.symm⟩
   refine zn3 s.length (by omega) (fun k=>∀ j,j<k→s.getD j default<(mt w i).Lamp) (fun j hj=>absurd hj (Nat.not_lt_zero _)) (fun k K2 hk hI2 hK2=>?_)
   refine zap (fun h=>by have:=of_decide_eq_true h;omega) (zap (fun _=>by omega) ?_)
   simp only [Int.toNat_natCast]
   have em:w.Mantles.getD i default=mt w i:=rfl
   simp only [em]
   refine zbw (fun hb=>?_) (fun hb=>?_)
   · simp only [Bool.and_eq_true,decide_eq_true_eq] at hb
     refine zaj (by omega) (hK2 (by omega) (fun j hj=>?_))
     by_cases ej:j=k
     · rw [ej];exact hb.2
     · exact hI2 j (by omega)
   simp only [Bool.and_eq_false_iff,decide_eq_false_iff_not] at hb
   have hge:∀ j,k≤j→j<s.length→(mt w i).Lamp≤s.getD j default:=fun j hkj hj=>by
    have h4:¬ s.getD k default<(mt w i).Lamp:=hb.resolve_left (by omega)
    by_cases ej:j=k
    · rw [ej];omega
    · have:=zpT h1 (i:=k) (j:=j) (by omega) hj;omega
   refine zap (fun h=>by simp [-List.getD_eq_getElem?_getD] at h;omega) (zap (fun _=>by omega) ?_)
   refine zbw (fun hc=>?_) (fun hc=>?_)
   · simp only [Bool.or_eq_true,Bool.not_eq_true',decide_eq_true_eq,decide_eq_false_iff_not] at hc
     have hgt:∀ j,k≤j→j<s.length→(mt w i).Lamp<s.getD j default:=fun j hkj hj=>by
      have h4:=hge j hkj hj
      rcases hc with hc|hc
      · omega
      · by_cases ej:j=k
        · rw [ej] at h4 ⊢;omega
        · have:=zpT h1 (i:=k) (j:=j) (by omega) hj
          have:=hge k (Nat.le_refl _) (by omega)
          omega
     refine zap (by omega) (zck (by simp [-List.getD_eq_getElem?_getD];omega) (zap (by omega) (zck (by simp [-List.getD_eq_getElem?_getD];omega) (zap (by omega) (zck (by simp [-List.getD_eq_getElem?_getD];omega) (zaj (by omega) (hK _ hin ⟨?_,fun x=>?_,?_⟩)))))))
     · rw [List.nil_append,List.pairwise_append,List.pairwise_append]
       refine ⟨⟨h1.sublist (List.take_sublist _ _),List.pairwise_singleton _ _,fun a ha b hb2=>?_⟩,h1.sublist (List.drop_sublist _ _),fun a ha b hb2=>?_⟩
       · rw [List.mem_singleton] at hb2
         obtain ⟨q,hq,rfl⟩:=zdR ha
         rw [List.length_take] at hq
         rw [hb2,getD_take,if_pos (by omega)]
         exact hI2 q (by omega)
       · obtain ⟨q,hq,rfl⟩:=zdR hb2
         rw [List.length_drop] at hq
         rw [getD_drop]
         have h5:=hgt (k+q) (by omega) (by omega)
         rcases List.mem_append.1 ha with ha|ha
         · obtain ⟨q2,hq2,rfl⟩:=zdR ha
           rw [List.length_take] at hq2
           rw [getD_take,if_pos (by omega)]
           have:=hI2 q2 (by omega)
           omega
         · rw [List.mem_singleton] at ha;rw [ha];exact h5
     · rw [ext,← h2]
       have:x∈s↔x∈s.take k∨x∈s.drop k:=by rw [← List.mem_append,List.take_append_drop]
       rw [this]
       simp only [List.nil_append,List.mem_append,List.mem_singleton]
       constructor
       · rintro ((h|h)|h)
         · exact .inl (.inl h)
         · exact .inr h
         · exact .inl (.inr h)
       · rintro ((h|h)|h)
         · exact .inl (.inl h)
         · exact .inr h
         · exact .inl (.inr h)
     · simp [-List.getD_eq_getElem?_getD];omega
   · simp only [Bool.or_eq_false_iff,Bool.not_eq_false',decide_eq_true_eq,decide_eq_false_iff_not] at hc
     refine zaj (by omega) (hK _ hin ⟨h1,fun x=>?_,by omega⟩)
     rw [ext,← h2]
     refine ⟨fun h=>.inl h,fun h=>h.elim id (fun h=>?_)⟩
     rw [h,← hc.2]
     exact zb6 (by omega)
 · have:i=w.Mantles.length:=by omega
   subst this
   exact zaU (by simp [-List.getD_eq_getElem?_getD]) (zam ⟨h1,h2,by simp only;omega⟩)
def zpw (w:Wear) (src night known:Int) (lamp:Int):Prop:=stateV w lamp night known≠stateV (zg4 w src) lamp night known
structure MovedV (w:Wear) (src night known:Int) (r:List Int×Int):Prop where
 inv:¬ WearOk w→r=([],64)
 day:WearOk w→¬ (zaH night∧zaH known)→r=([],6)
 none:WearOk w→zaH night∧zaH known→¬ total (zg4 w src)<total w→r=([],3)
 ok:WearOk w→zaH night∧zaH known→total (zg4 w src)<total w→r.2=0∧r.1.Pairwise (· < ·)∧(∀ x,x∈r.1↔(∃ j,j<w.Mantles.length∧(mt w j).Lamp=x)∧zpw w src night known x)∧r.1.length≤60
theorem MovedV.uniq {w:Wear} {src night known:Int} {r r':List Int×Int} (h:MovedV w src night known r) (h':MovedV w src night known r'):r=r':=by
 by_cases V:WearOk w
 · by_cases hn:zaH night∧zaH known
   · by_cases hs:total (zg4 w src)<total w
     · obtain ⟨a1,a2,a3,_⟩:=h.ok V hn hs
       obtain ⟨b1,b2,b3,_⟩:=h'.ok V hn hs
       exact Prod.ext (zj9 (fun x:Int=>x) a2 b2 (fun z=>(a3 z).trans (b3 z).symm)) (a1.trans b1.symm)
     · rw [h.none V hn hs,h'.none V hn hs]
   · rw [h.day V hn,h'.day V hn]
 · rw [h.inv V,h'.inv V]
theorem zkF {a b:Int×Int}:((!decide (a.1=b.1)) || (!decide (a.2=b.2)))=true↔a≠b:=by
 simp only [Bool.or_eq_true,Bool.not_eq_true',decide_eq_false_iff_not]
 constructor
 · rintro (h|h) e
   · exact h (by rw [e])
   · exact h (by rw [e])
 · intro h
   by_cases h1:a.1=b.1
   · exact .inr (fun h2=>h (Prod.ext h1 h2))
   · exact .inl h1
theorem zom {w:Wear} {fuel:Nat} (hf:1000≤fuel) (src night known:Int):Wp (zcg fuel w src ⟨night,known⟩) (MovedV w src night known):=by
 unfold zcg
 by_cases V:¬ WearOk w
 · exact zau (zpn V (by omega) _) (za9 (by simp [-List.getD_eq_getElem?_getD]) (zam ⟨fun _=>rfl,fun k=>absurd k V,fun k=>absurd k V,fun k=>absurd k V⟩))
 have V:=Classical.not_not.1 V
 by_cases hn:¬ (zaH night∧zaH known)
 · exact zau (zpo V (by omega) hn) (za9 (by simp [-List.getD_eq_getElem?_getD]) (zam ⟨fun k=>absurd V k,fun _ _=>rfl,fun _ k=>absurd k hn,fun _ k=>absurd k hn⟩))
 have hn:=Classical.not_not.1 hn
 refine zau (zqi V (by omega) hn) (zaU (by simp [-List.getD_eq_getElem?_getD]) (zau (zmj V hf src) ?_))
 simp only
 refine zbw (fun h=>zam ⟨fun k=>absurd V k,fun _ k=>absurd hn k,fun _ _ _=>rfl,fun _ _ k=>by simp [-List.getD_eq_getElem?_getD,k] at h⟩) (fun h=>?_)
 have hs:total (zg4 w src)<total w:=by simpa [-List.getD_eq_getElem?_getD] using h
 refine wp_bind (zon V hf) (fun y hy=>?_)
 obtain ⟨y1,y2,y3⟩:=hy
 refine zhd y.length (by omega) (fun i s=>s.Pairwise (· < ·)∧(∀ x,x∈s↔x∈y.take i∧zpw w src night known x)∧s.length≤i) ⟨List.Pairwise.nil,fun x=>⟨fun h=>(by cases h),fun h=>(by simp [-List.getD_eq_getElem?_getD] at h)⟩,Nat.le_refl _⟩ (fun i s K hi hI hK=>?_)
 obtain ⟨h1,h2,h3⟩:=hI
 by_cases hin:i<y.length
 · refine za9 (by simp [-List.getD_eq_getElem?_getD];omega) (zap (by simp only;omega) ?_)
   simp only [Int.toNat_natCast]
   refine zau (zlr V hf _ _ _) (zap (by omega) (zau (zlr (zna V src) hf _ _ _) ?_))
   have hmt:=zfy hin
   refine zqm (p:=zpw w src night known (y.getD i default)) (fun hb=>zkF.1 hb) (fun hb k=>absurd ((zkF.2 k).symm.trans hb) (by decide)) (fun hm=>zap (by omega) (zck (by simp [-List.getD_eq_getElem?_getD];omega) (zaj (by omega) (hK _ hin ⟨?_,fun x=>?_,by simp [-List.getD_eq_getElem?_getD];omega⟩)))) (fun hm=>zaj (by omega) (hK _ hin ⟨h1,fun x=>?_,by omega⟩))
   · rw [List.pairwise_append]
     refine ⟨h1,List.pairwise_singleton _ _,fun a ha b hb=>?_⟩
     rw [List.mem_singleton] at hb
     obtain ⟨q,hq,e⟩:=zdR ((h2 a).1 ha).1
     rw [List.length_take] at hq
     rw [getD_take,if_pos (by omega)] at e
     rw [hb,← e]
     exact zpT y1 (by omega) hin
   · rw [List.mem_append,List.mem_singleton,h2,hmt]
     constructor
     · rintro (⟨a,b⟩|a)
       · exact ⟨.inl a,b⟩
       · rw [a];exact ⟨.inr rfl,hm⟩
     · rintro ⟨a|a,b⟩
       · exact .inl ⟨a,b⟩
       · exact .inr a
   · rw [h2,hmt]
     constructor
     · rintro ⟨a,b⟩;exact ⟨.inl a,b⟩
     · rintro ⟨a|a,b⟩
       · exact ⟨a,b⟩
       · rw [a] at b;exact absurd b hm
 · have:i=y.length:=by omega
   subst this
   rw [List.take_length] at h2
   exact zaU (by simp [-List.getD_eq_getElem?_getD]) (zam ⟨fun k=>absurd V k,fun _ k=>absurd hn k,fun _ _ k=>absurd hs k,fun _ _ _=>⟨rfl,h1,fun x=>by rw [h2,y2],by simp only;omega⟩⟩)
theorem zoB {w:Wear} (hw:Fits w) {fuel:Nat} (hf:1000≤fuel) (src night known:Int):Wp (zel fuel w src night known) (MovedV w src night known):=by
 unfold zel
 by_cases V:¬ WearOk w
 · exact zau (znH hw V _) (za9 (by simp [-List.getD_eq_getElem?_getD]) (zam ⟨fun _=>rfl,fun k=>absurd k V,fun k=>absurd k V,fun k=>absurd k V⟩))
 have V:=Classical.not_not.1 V
 have hiff:(∀ n∈([night,known]:List Int),zaH n)↔zaH night∧zaH known:=⟨fun h=>⟨h night (by simp [-List.getD_eq_getElem?_getD]),h known (by simp [-List.getD_eq_getElem?_getD])⟩,fun h n hn=>by
  simp only [List.mem_cons,List.not_mem_nil,or_false] at hn
  rcases hn with rfl|rfl
  · exact h.1
  · exact h.2⟩
 by_cases hn:¬ (zaH night∧zaH known)
 · exact zau (zke V (fun k=>hn (hiff.1 k))) (za9 (by simp [-List.getD_eq_getElem?_getD]) (zam ⟨fun k=>absurd V k,fun _ _=>rfl,fun _ k=>absurd k hn,fun _ k=>absurd k hn⟩))
 have hn:=Classical.not_not.1 hn
 have nm:=V.nm;have nu:=V.nu;have nl:=V.nl
 refine zau (zlx V (hiff.2 hn)) (zaU (by simp [-List.getD_eq_getElem?_getD]) ?_)
 unfold zbh zbJ zba
 refine wp_bind (Q:=fun y=>y=w.Mantles) (zck (by simp [-List.getD_eq_getElem?_getD];omega) (zam (by simp [-List.getD_eq_getElem?_getD]))) (fun y hy=>?_)
 subst hy
 have d1:=zfH (T:=Mantle) (⟨0,0,0,0,0,0⟩:Mantle) (p:=fun x0=>some (zcS x0 src)) (q:=fun x=>decide (x.Source=src)) (fun x=>rfl) w.Mantles fuel (by omega) (by omega)
 refine zau (show zbX fuel w.Mantles _=_ from d1) ?_
 refine wp_bind (Q:=fun y=>y=w.Burns) (zck (by simp [-List.getD_eq_getElem?_getD];omega) (zam (by simp [-List.getD_eq_getElem?_getD]))) (fun y hy=>?_)
 subst hy
 have d2:=zfH (T:=Burn) (⟨0,0,0,(⟨0,0⟩:Range),0,0⟩:Burn) (p:=fun x0=>some (zcR x0 src)) (q:=fun x=>decide (x.Source=src)) (fun x=>rfl) w.Burns fuel (by omega) (by omega)
 refine zau (show zcm fuel w.Burns _=_ from d2) ?_
 refine wp_bind (Q:=fun y=>y=w.Looks) (zck (by simp [-List.getD_eq_getElem?_getD];omega) (zam (by simp [-List.getD_eq_getElem?_getD]))) (fun y hy=>?_)
 subst hy
 have d3:=zfH (T:=Look) (⟨0,0,0,false,0,0⟩:Look) (p:=fun x0=>some (zcQ x0 src)) (q:=fun x=>decide (x.Source=src)) (fun x=>rfl) w.Looks fuel (by omega) (by omega)
 refine zau (show zbD fuel w.Looks _=_ from d3) ?_
 have ht:=zpy w src
 have l1:=List.length_filter_le (fun x:Mantle=>!decide (x.Source=src)) w.Mantles
 have l2:=List.length_filter_le (fun x:Burn=>!decide (x.Source=src)) w.Burns
 have l3:=List.length_filter_le (fun x:Look=>!decide (x.Source=src)) w.Looks
 refine zaj (by omega) (zaj (by omega) (zaj (by omega) (zaj (by omega) ?_)))
 have hiff2:((((w.Mantles.filter (fun x=>!decide (x.Source=src))).length:Int)+((w.Burns.filter (fun x=>!decide (x.Source=src))).length:Int))+((w.Looks.filter (fun x=>!decide (x.Source=src))).length:Int)=((w.Mantles.length:Int)+(w.Burns.length:Int))+(w.Looks.length:Int))↔¬ total (zg4 w src)<total w:=by
  unfold total zg4 at ht ⊢
  simp only at ht ⊢
  omega
 refine zbM (fun h=>zam ⟨fun k=>absurd V k,fun _ k=>absurd hn k,fun _ _ _=>rfl,fun _ _ k=>absurd k (hiff2.1 h)⟩) (fun h=>?_)
 have hs:total (zg4 w src)<total w:=Classical.byContradiction (fun k=>h (hiff2.2 k))
 refine zeB (fun i s=>(∀ x,x∈s↔(∃ j,j<i∧(mt w j).Lamp=x)∧zpw w src night known x)∧s.length≤i) ⟨fun x=>⟨fun h=>(by cases h),fun ⟨⟨j,hj,_⟩,_⟩=>absurd hj (Nat.not_lt_zero _)⟩,Nat.le_refl _⟩ (fun i s K hi hI hK=>?_) (fun s hs2=>?_)
 · obtain ⟨h2,h3⟩:=hI
   refine zau (zlz V hf _ _ _) (zau (zlz (w:=⟨w.Batches,_,_,_⟩) (zna V src) hf _ _ _) ?_)
   have ext:∀ {x:Int},(∃ j,j<i+1∧(mt w j).Lamp=x)↔(∃ j,j<i∧(mt w j).Lamp=x)∨x=(mt w i).Lamp:=fun {x}=>by
    constructor
    · rintro ⟨j,hj,e⟩
      by_cases ej:j=i
      · right;rw [← e,ej]
      · exact .inl ⟨j,by omega,e⟩
    · rintro (⟨j,hj,e⟩|e)
      · exact ⟨j,by omega,e⟩
      · exact ⟨i,by omega,e.symm⟩
   refine zqm (p:=zpw w src night known (mt w i).Lamp) (fun hb=>zkF.1 hb) (fun hb k=>absurd ((zkF.2 k).symm.trans hb) (by decide)) (fun hm=>zck (by simp [-List.getD_eq_getElem?_getD];omega) (hK _ ⟨fun x=>?_,by simp [-List.getD_eq_getElem?_getD];omega⟩)) (fun hm=>hK _ ⟨fun x=>?_,by omega⟩)
   · rw [List.mem_append,List.mem_singleton,h2,ext]
     constructor
     · rintro (⟨a,b⟩|a)
       · exact ⟨.inl a,b⟩
       · exact ⟨.inr a,by rw [a];exact hm⟩
     · rintro ⟨a|a,b⟩
       · exact .inl ⟨a,b⟩
       · exact .inr a
   · rw [h2,ext]
     constructor
     · rintro ⟨a,b⟩;exact ⟨.inl a,b⟩
     · rintro ⟨a|a,b⟩
       · exact ⟨a,b⟩
       · rw [a] at b;exact absurd b hm
 · obtain ⟨h2,h3⟩:=hs2
   refine zau (zeW (by omega) _:zca s=_) (zap (zdJ _) (wp_bind (znV hf (by rw [zdJ];omega) (zgg _)) (fun r hr=>zam ⟨fun k=>absurd V k,fun _ k=>absurd hn k,fun _ _ k=>absurd hs k,fun _ _ _=>⟨rfl,hr.1,fun x=>?_,?_⟩⟩)))
   · rw [hr.2.1,(zgU s).mem_iff,h2]
   · have:=hr.2.2
     rw [zdJ] at this
     simp only;omega
theorem MovedV.len {w:Wear} {src night known:Int} {r:List Int×Int} (h:MovedV w src night known r):r.1.length≤60:=by
 by_cases V:WearOk w
 · by_cases hn:zaH night∧zaH known
   · by_cases hs:total (zg4 w src)<total w
     · exact (h.ok V hn hs).2.2.2
     · rw [h.none V hn hs];simp [-List.getD_eq_getElem?_getD]
   · rw [h.day V hn];simp [-List.getD_eq_getElem?_getD]
 · rw [h.inv V];simp [-List.getD_eq_getElem?_getD]
theorem ziS {w:Wear} (hw:Fits w) (src:Int) (n:Arr2 Int):za5 1000 w src n=some true:=by
 obtain ⟨night,known⟩:=n
 unfold za5
 obtain ⟨a,a1,a2⟩:=zoB hw (fuel:=1000) (by omega) src night known
 obtain ⟨a',a1',a2'⟩:=zom (w:=w) (fuel:=1000) (by omega) src night known
 obtain rfl:=a2.uniq a2'
 have hl:=a2.len
 refine Wp.eq (zau zn8 (zau a1 (zau a1' (zau (zn9 _ (by omega) (by omega)) (zam ?_)))))
 simp [-List.getD_eq_getElem?_getD]
end Go.Sp
end
