/- Texts of the framework, or of the plain law, one behind another. -/
import Derived.WalkKit
import Derived.RangeFuncLeaves
import Derived.OrdersIn
import Derived.RangeFuncOwn
import Derived.Maps.RangeRun
import Derived.IntWalk
import Derived.Lib.LazyBuf
import Derived.Maps.OwnOps
import Derived.Maps.AppendAt
import Derived.MapKept
import Derived.Lib.AppendZerosOnto
/- Abstract values: what a value of the model reads as, over a part of memory that is only read and blocks that the activation owns. No program is in sight. -/
section
set_option linter.all false
namespace Go.Av
inductive AV where
 | any|one|nilS|nilFn|nilPtr|nilMap|nilIfc
 | bool (b:Bool)
 | int (k:IntKind) (n:Int)
 | agg (cs:List AV)
 | tup (cs:List AV)
 | ro (sz n:Nat) (e:Nat→List AV)
 | rp (cs:List AV)
 | lp (id off:Nat)
 | buf (id n:Nat)
 | ep (id n i off:Nat)
 | fn (f:Fn) (first captured:List AV)
 | clo (f:Fn) (first captured:List AV)
 | mp (id:Nat)
 | rom (z:Value) (dom:Int→Bool) (e:Int→AV) (n:Nat)
 | ifc (t:TypeId) (v:AV)
 | cnd (g:Bool) (v:AV)
 | raw (v:Value)
 | nz (n:Nat)
 | po (b:Bool) (cs:List AV)
 | gb (id n:Nat)
 | gp (id n i:Nat)
 | gr' (id i m:Nat)
 | ge (id i m j off:Nat)
 | sb (id n a b:Nat)
 | ns (b:Bool) (v:AV)
 | pin (hp:Nat→Option Obj) (v:AV)
abbrev Hp:=Nat→Option Obj
inductive LI where
 | blk (b:Nat)
 | sl (n sz:Nat) (v:Value)
 | grid (v:Value) (sz:Nat) (rows:List (Nat×Value))
 | rows (o:Option Nat) (R:Int→Option (Nat×Value))
abbrev Rho:=Nat→Option LI
def ρ0:Rho:=fun _=>none
def LI.owns:LI→Nat→Prop
 | .blk b',b=>some b'=some b
 | .sl _ _ v,b=>v.ownBlock=some b
 | .grid v _ l,b=>v.ownBlock=some b∨∃ r,r∈l∧r.2.ownBlock=some b
 | .rows o R,b=>o=some b∨∃ k m v,R k=some (m,v)∧v.ownBlock=some b
def LI.mapb:LI→Option Nat
 | .blk b=>some b
 | .rows o _=>o
 | _=>none
def LI.le (a b:LI):Prop:=a=b∨(∃ n n' sz v v',a = .sl n sz v∧b = .sl n' sz v'∧n<n') ∨
 (∃ v v' sz rows rows',a = .grid v sz rows∧b = .grid v' sz rows'∧rows.length≤rows'.length∧(rows.length=rows'.length→v'=v)∧∀ (i m:Nat) (x:Value),rows[i]? = some (m,x)→rows'[i]? = some (m,x)∨∃ m' x',rows'[i]? = some (m',x')∧m<m') ∨
 (∃ v sz rows n sz',a = .grid v sz rows∧b = .sl n sz' (.slice none 0 0))∨∃ o R R',a = .rows o R∧b = .rows o R'
theorem LI.zkL {v:Value} {sz:Nat} {rows:List (Nat×Value)} {b:LI} (H:(LI.grid v sz rows).le b) {v':Value} {sz':Nat} {rows':List (Nat×Value)} (hb:b = .grid v' sz' rows') :
 sz'=sz∧rows.length≤rows'.length∧(rows.length=rows'.length→v'=v)∧∀ (i m:Nat) (x:Value),rows[i]? = some (m,x)→rows'[i]? = some (m,x)∨∃ m' x',rows'[i]? = some (m',x')∧m<m':=by
 subst hb
 rcases H with H|⟨_,_,_,_,_,h2,_⟩|⟨_,_,_,_,_,h1,h2,h3,h4,h5⟩|⟨_,_,_,_,_,_,h2⟩|⟨_,_,_,h1,_⟩
 · cases H;exact ⟨rfl,Nat.le_refl _,fun _=>rfl,fun i m x h=>.inl h⟩
 · cases h2
 · cases h1;cases h2;exact ⟨rfl,h3,h4,h5⟩
 · cases h2
 · cases h1
theorem LI.zgD {a:LI} {v':Value} {sz':Nat} {rows':List (Nat×Value)} (H:a.le (.grid v' sz' rows')):∃ v sz rows,a = .grid v sz rows:=by
 rcases H with H|⟨_,_,_,_,_,_,h2,_⟩|⟨_,_,_,_,_,h1,_⟩|⟨_,_,_,_,_,h1,_⟩|⟨_,_,_,_,h2⟩
 · exact ⟨_,_,_,H⟩
 · cases h2
 · exact ⟨_,_,_,h1⟩
 · exact ⟨_,_,_,h1⟩
 · cases h2
theorem LI.le_refl (a:LI):a.le a:=.inl rfl
theorem LI.zq5 {a a':LI} (H:a.le a') {b:Nat} (h:a.mapb=some b):a'.mapb=some b:=by
 rcases H with rfl|⟨_,_,_,_,_,h2,_⟩|⟨_,_,_,_,_,h1,_⟩|⟨_,_,_,_,_,h1,_⟩|⟨_,_,_,h1,h2⟩
 · exact h
 · rw [h2] at h;cases h
 · rw [h1] at h;cases h
 · rw [h1] at h;cases h
 · rw [h1] at h;rw [h2];exact h
def cellOf (h:Hp) (a:Addr):Option Value:=
 match h a.block with
 | some (.cells c _ _)=>if a.spot.isSome then none else c[a.off]?
 | _=>none
def hcell (h:Hp) (a:Option Addr) (k:Nat):Option Value:=
 match a with
 | none=>none
 | some ad=>cellOf h (ad.add k)
def Le (h h':Hp):Prop:=∀ b o,h b=some o→(∀ l,o ≠ .loop l)→(∀ d,o ≠ .deferred d)→h' b=some o
inductive Rel:Hp→Rho→AV→Value→Prop
 | any {h:Hp} (ρ v):Rel h ρ .any v
 | one {h:Hp} (ρ) (v:Value) (h1:v.oneCell'=true):Rel h ρ .one v
 | nilS {h:Hp} (ρ):Rel h ρ .nilS (.slice none 0 0)
 | nilFn {h:Hp} (ρ):Rel h ρ .nilFn .nilFunc
 | nilPtr {h:Hp} (ρ):Rel h ρ .nilPtr (.pointer none)
 | nilMap {h:Hp} (ρ):Rel h ρ .nilMap (.map none)
 | nilIfc {h:Hp} (ρ):Rel h ρ .nilIfc .nilIface
 | bool {h:Hp} (ρ b):Rel h ρ (.bool b) (.bool b)
 | int {h:Hp} (ρ k n):Rel h ρ (.int k n) (.int k n)
 | agg {h:Hp} (ρ cs) (vs:List Value) (hl:vs.length=cs.length) (hc:∀ (i:Nat) (c:AV) (v:Value),cs[i]? = some c→vs[i]? = some v→Rel h ρ c v):Rel h ρ (.agg cs) (.agg vs.toArray)
 | tup {h:Hp} (ρ cs) (vs:List Value) (hl:vs.length=cs.length) (hc:∀ (i:Nat) (c:AV) (v:Value),cs[i]? = some c→vs[i]? = some v→Rel h ρ c v):Rel h ρ (.tup cs) (.tuple vs.toArray)
 | ro {h:Hp} (ρ sz n e) (a:Option Addr) (cap:Nat) (hnil:a=none→n=0) (hcap:n≤cap∧n≤maxLen) (hsz:∀ i,i<n→(e i).length=sz) (hs:∀ i j,i<n→j<sz→(hcell h a (i * sz+j)).isSome=true)
  (h1:∀ (k:Nat) (v:Value),k<n * sz→hcell h a k=some v→v.oneCell'=true)
  (hc:∀ (i j:Nat) (c:AV) (v:Value),i<n→(e i)[j]? = some c→hcell h a (i * sz+j)=some v→Rel h ρ0 c v):Rel h ρ (.ro sz n e) (.slice a n cap)
 | rp {h:Hp} (ρ cs) (ad:Addr) (hs:∀ j,j<cs.length→(cellOf h (ad.add j)).isSome=true)
  (hc:∀ (j:Nat) (c:AV) (v:Value),cs[j]? = some c→cellOf h (ad.add j)=some v→Rel h ρ0 c v):Rel h ρ (.rp cs) (.pointer (some ad))
 | lp {h:Hp} (ρ id off) (b:Nat) (hb:ρ id=some (.blk b)):Rel h ρ (.lp id off) (.pointer (some ⟨b,off,none⟩))
 | buf {h:Hp} (ρ id n) (n' sz:Nat) (v v':Value) (hb:ρ id=some (.sl n' sz v')) (hle:n≤n') (h1:v.oneCell'=true) (he:n=n'→v=v'):Rel h ρ (.buf id n) v
 | ep {h:Hp} (ρ id n i off) (n' sz:Nat) (v v':Value) (hb:ρ id=some (.sl n' sz v')) (hle:n≤n') (h1:∃ ad,v = .pointer (some ad)) (he:n=n'→∃ b cap,v' = .slice (some ⟨b,0,none⟩) n' cap∧v = .pointer (some ⟨b,i * sz+off,none⟩)):Rel h ρ (.ep id n i off) v
 | fn {h:Hp} (ρ f fs cs) (vs ws:List Value) (hl:vs.length=fs.length) (hm:ws.length=cs.length) (hc:∀ (i:Nat) (c:AV) (v:Value),fs[i]? = some c→vs[i]? = some v→Rel h ρ c v)
  (hd:∀ (i:Nat) (c:AV) (v:Value),cs[i]? = some c→ws[i]? = some v→Rel h ρ c v):Rel h ρ (.fn f fs cs) (.func f vs.toArray ws.toArray)
 | clo {h:Hp} (ρ f fs cs v) (hv:Rel h ρ0 (.fn f fs cs) v):Rel h ρ (.clo f fs cs) v
 | mp {h:Hp} (ρ id) (li:LI) (b:Nat) (hb:ρ id=some li) (hm:li.mapb=some b):Rel h ρ (.mp id) (.map (some b))
 | romN {h:Hp} (ρ z dom e) (hdom:∀ k,dom k=false) (hz:∀ k,Rel h ρ0 (e k) z):Rel h ρ (.rom z dom e 0) (.map none)
 | rom {h:Hp} (ρ z dom e n) (r:Nat) (es:List MapEntry) (clock:Nat) (ks:List Int) (hr:h r=some (.map es.toArray clock)) (hks:ks.Nodup) (hlen:ks.length=n) (hel:es.length=n)
  (hk:∀ (i:Nat) (k:Int) (x:MapEntry),ks[i]? = some k→es[i]? = some x→x.key = .int .i64 k) (hborn:∀ x∈es,x.born<clock) (hbd:(es.map (·.born)).Nodup)
  (hdom:∀ k,dom k=true↔k∈ks) (hz:∀ k,dom k=false→Rel h ρ0 (e k) z)
  (hc:∀ (i:Nat) (k:Int) (x:MapEntry),ks[i]? = some k→es[i]? = some x→Rel h ρ0 (e k) x.val):Rel h ρ (.rom z dom e n) (.map (some r))
 | ifc {h:Hp} (ρ t a v) (hv:Rel h ρ a v):Rel h ρ (.ifc t a) (.iface t v)
 | cnd {h:Hp} (ρ g a v) (ht:g=true→Rel h ρ a v) (hf:g=false→v=undef):Rel h ρ (.cnd g a) v
 | raw {h:Hp} (ρ v):Rel h ρ (.raw v) v
 | nz {h:Hp} (ρ n) (b:Bool) (hb:b=true→n=0):Rel h ρ (.nz n) (.bool b)
 | po {h:Hp} (ρ b cs v) (ht:b=true→Rel h ρ (.rp cs) v) (hf:b=false→v = .pointer none):Rel h ρ (.po b cs) v
 | gb {h:Hp} (ρ id n) (li:LI) (v:Value) (hb:ρ id=some li) (hg:∀ v0 sz rows,li = .grid v0 sz rows→n≤rows.length∧(n=rows.length→v=v0)) (h1:v.oneCell'=true):Rel h ρ (.gb id n) v
 | gp {h:Hp} (ρ id n i) (li:LI) (ad:Addr) (hb:ρ id=some li) (hg:∀ v0 sz rows,li = .grid v0 sz rows→n≤rows.length∧(n=rows.length→∃ b cap,v0 = .slice (some ⟨b,0,none⟩) n cap∧ad=⟨b,i,none⟩)):Rel h ρ (.gp id n i) (.pointer (some ad))
 | gr' {h:Hp} (ρ id i m) (li:LI) (v:Value) (hb:ρ id=some li) (hg:∀ v0 sz rows,li = .grid v0 sz rows→∃ m' v',rows[i]? = some (m',v')∧m≤m'∧(m=m'→v=v')) (h1:v.oneCell'=true):Rel h ρ (.gr' id i m) v
 | ge {h:Hp} (ρ id i m j off) (li:LI) (v:Value) (hb:ρ id=some li) (h1:∃ ad,v = .pointer (some ad)) (hg:∀ v0 sz rows,li = .grid v0 sz rows→∃ m' v',rows[i]? = some (m',v')∧m≤m'∧(m=m'→∃ b cap,v' = .slice (some ⟨b,0,none⟩) m' cap∧v = .pointer (some ⟨b,j * sz+off,none⟩))):Rel h ρ (.ge id i m j off) v
 | sb {h:Hp} (ρ id n a b) (n' sz:Nat) (v v':Value) (hb:ρ id=some (.sl n' sz v')) (hle:n≤n') (h1:v.oneCell'=true) (he:n=n'→∃ g cap,v' = .slice (some ⟨g,0,none⟩) n' cap∧v = .slice (some (if cap=a then ⟨g,0,none⟩ else ⟨g,a * sz,none⟩)) (b - a) (cap - a)):Rel h ρ (.sb id n a b) v
 | ns {h:Hp} (ρ b a v) (hv:Rel h ρ a v) (hn:b=true↔∃ n cap,v = .slice none n cap):Rel h ρ (.ns b a) v
 | pin {h:Hp} (ρ hp a v) (hl:Le hp h) (hv:Rel hp ρ0 a v):Rel h ρ (.pin hp a) v
theorem Le.refl (h:Hp):Le h h:=fun _ _ x _ _=>x
theorem Le.trans {a b c:Hp} (h:Le a b) (k:Le b c):Le a c:=fun i o x y z=>k i o (h i o x y z) y z
theorem Le.of {h h':Hp} (k:∀ b o,h b=some o→h' b=some o):Le h h':=fun b o x _ _=>k b o x
theorem Le.cellOf {h h':Hp} (hh:Le h h') {a:Addr} {v:Value} (hc:cellOf h a=some v):cellOf h' a=some v:=by
 unfold Av.cellOf at hc ⊢
 cases hb:h a.block with
 | none=>simp [hb] at hc
 | some o=>
  cases o <;> simp only [hb] at hc <;> (try cases hc)
  rw [hh _ _ hb (by simp) (by simp)]
  exact hc
theorem Le.hcell {h h':Hp} (hh:Le h h') {a:Option Addr} {k:Nat} {v:Value} (hc:hcell h a k=some v):hcell h' a k=some v:=by
 cases a with
 | none=>cases hc
 | some ad=>exact Le.cellOf hh hc
theorem Le.zqX {h h':Hp} (hh:Le h h') {a:Addr} {v:Value} (hs:(Av.cellOf h a).isSome=true) (hc:Av.cellOf h' a=some v):Av.cellOf h a=some v:=by
 obtain ⟨u,hu⟩:=Option.isSome_iff_exists.1 hs
 rw [Le.cellOf hh hu] at hc
 rw [hu,← hc]
theorem Le.znf {h h':Hp} (hh:Le h h') {a:Option Addr} {k:Nat} {v:Value} (hs:(Av.hcell h a k).isSome=true) (hc:Av.hcell h' a k=some v):Av.hcell h a k=some v:=by
 obtain ⟨u,hu⟩:=Option.isSome_iff_exists.1 hs
 rw [Le.hcell hh hu] at hc
 rw [hu,← hc]
theorem Rel.mono {h h':Hp} {ρ ρ':Rho} {a:AV} {v:Value} (hh:Le h h') (hr:∀ id li,ρ id=some li→∃ li',ρ' id=some li'∧li.le li') (H:Rel h ρ a v):Rel h' ρ' a v:=by
 induction H generalizing ρ' with
 | any ρ v=>exact .any _ _
 | one _ _ h1=>exact .one _ _ h1
 | nilS=>exact .nilS _
 | nilFn=>exact .nilFn _
 | nilPtr=>exact .nilPtr _
 | nilMap=>exact .nilMap _
 | nilIfc=>exact .nilIfc _
 | bool=>exact .bool _ _
 | int=>exact .int _ _ _
 | agg ρ cs vs hl hc ih=>exact .agg _ _ _ hl fun i c v h1 h2=>ih i c v h1 h2 hh hr
 | tup ρ cs vs hl hc ih=>exact .tup _ _ _ hl fun i c v h1 h2=>ih i c v h1 h2 hh hr
 | ro ρ sz n e a cap hnil hcap hsz hs h1 hc ih=>
  refine .ro _ _ _ _ _ _ hnil hcap hsz (fun i j hi hj=>?_) (fun k v hk hv=>?_) (fun i j c v hi hj hv=>ih i j c v hi hj (Le.znf hh (hs i j hi ?_) hv) hh (fun _ li h=>⟨li,h,.inl rfl⟩))
  · obtain ⟨u,hu⟩:=Option.isSome_iff_exists.1 (hs i j hi hj)
    rw [Le.hcell hh hu];rfl
  · have hpos:0<sz:=by
     rcases Nat.eq_zero_or_pos sz with h0|h0
     · subst h0;simp at hk
     · exact h0
    have hs':=hs (k / sz) (k % sz) (by rw [Nat.div_lt_iff_lt_mul hpos];exact hk) (Nat.mod_lt _ hpos)
    rw [Nat.mul_comm,Nat.div_add_mod] at hs'
    exact h1 k v hk (Le.znf hh hs' hv)
  · have:=(List.getElem?_eq_some_iff.1 hj).1
    rw [hsz i hi] at this;exact this
 | rp ρ cs ad hs hc ih=>
  refine .rp _ _ _ (fun j hj=>?_) (fun j c v hj hv=>ih j c v hj (Le.zqX hh (hs j (List.getElem?_eq_some_iff.1 hj).1) hv) hh (fun _ li h=>⟨li,h,.inl rfl⟩))
  obtain ⟨u,hu⟩:=Option.isSome_iff_exists.1 (hs j hj)
  rw [Le.cellOf hh hu];rfl
 | lp ρ id off b hb=>
  obtain ⟨li',h1,h2⟩:=hr _ _ hb
  rcases h2 with rfl|⟨n,n',sz,v,v',h2,_⟩|⟨_,_,_,_,_,h2,_⟩|⟨_,_,_,_,_,h2,_⟩|⟨_,_,_,h2,_⟩
  · exact .lp _ _ _ _ h1
  · cases h2
  · cases h2
  · cases h2
  · cases h2
 | buf ρ id n n' sz v v' hb hle h0 he=>
  obtain ⟨li',h1,h2⟩:=hr _ _ hb
  rcases h2 with rfl|⟨m,m',sz',u,u',h2,rfl,h3⟩|⟨_,_,_,_,_,h2,_⟩|⟨_,_,_,_,_,h2,_⟩|⟨_,_,_,h2,_⟩
  · exact .buf _ _ _ _ _ _ _ h1 hle h0 he
  · cases h2;exact .buf _ _ _ _ _ _ _ h1 (by omega) h0 (fun e=>by omega)
  · cases h2
  · cases h2
  · cases h2
 | ep ρ id n i off n' sz v v' hb hle h0 he=>
  obtain ⟨li',h1,h2⟩:=hr _ _ hb
  rcases h2 with rfl|⟨m,m',sz',u,u',h2,rfl,h3⟩|⟨_,_,_,_,_,h2,_⟩|⟨_,_,_,_,_,h2,_⟩|⟨_,_,_,h2,_⟩
  · exact .ep _ _ _ _ _ _ _ _ _ h1 hle h0 he
  · cases h2;exact .ep _ _ _ _ _ _ _ _ _ h1 (by omega) h0 (fun e=>by omega)
  · cases h2
  · cases h2
  · cases h2
 | fn ρ f fs cs vs ws hl hm hc hd ih1 ih2=>exact .fn _ _ _ _ _ _ hl hm (fun i c v h1 h2=>ih1 i c v h1 h2 hh hr) (fun i c v h1 h2=>ih2 i c v h1 h2 hh hr)
 | clo ρ f fs cs v hv ih=>exact .clo _ _ _ _ _ (ih hh (fun _ li h=>⟨li,h,.inl rfl⟩))
 | mp ρ id li b hb hm=>
  obtain ⟨li',h1,h2⟩:=hr _ _ hb
  exact .mp _ _ _ _ h1 (LI.zq5 h2 hm)
 | romN ρ z dom e hdom hz ih=>exact .romN _ _ _ _ hdom (fun k=>ih k hh (fun _ li h=>⟨li,h,.inl rfl⟩))
 | ns ρ b a v hv hn ih=>exact .ns _ _ _ _ (ih hh hr) hn
 | pin ρ hp a v hl hv ih=>exact .pin _ _ _ _ (hl.trans hh) hv
 | rom ρ z dom e n r es clock ks hR hks hlen hel hk hborn hbd hdom hz hc ihz ih=>
  exact .rom _ _ _ _ _ _ _ _ _ (hh _ _ hR (by simp) (by simp)) hks hlen hel hk hborn hbd hdom (fun k h1=>ihz k h1 hh (fun _ li h=>⟨li,h,.inl rfl⟩)) (fun i k x h1 h2=>ih i k x h1 h2 hh (fun _ li h=>⟨li,h,.inl rfl⟩))
 | ifc ρ t a v hv ih=>exact .ifc _ _ _ _ (ih hh hr)
 | cnd ρ g a v ht hf ih=>exact .cnd _ _ _ _ (fun hg=>ih hg hh hr) hf
 | raw=>exact .raw _ _
 | nz ρ n b hb=>exact .nz _ _ _ hb
 | po ρ b cs v ht hf ih=>exact .po _ _ _ _ (fun hg=>ih hg hh hr) hf
 | gb ρ id n li v hb hg h0=>
  obtain ⟨li',h1,h2⟩:=hr _ _ hb
  refine .gb _ _ _ _ _ h1 (fun v0 sz rows e=>?_) h0
  subst e
  obtain ⟨v1,sz1,rows1,rfl⟩:=LI.zgD h2
  obtain ⟨rfl,k2,k3,k4⟩:=LI.zkL h2 rfl
  obtain ⟨g1,g2⟩:=hg _ _ _ rfl
  exact ⟨Nat.le_trans g1 k2,fun e=>by rw [k3 (by omega)];exact g2 (by omega)⟩
 | gp ρ id n i li ad hb hg=>
  obtain ⟨li',h1,h2⟩:=hr _ _ hb
  refine .gp _ _ _ _ _ _ h1 (fun v0 sz rows e=>?_)
  subst e
  obtain ⟨v1,sz1,rows1,rfl⟩:=LI.zgD h2
  obtain ⟨rfl,k2,k3,k4⟩:=LI.zkL h2 rfl
  obtain ⟨g1,g2⟩:=hg _ _ _ rfl
  exact ⟨Nat.le_trans g1 k2,fun e=>by rw [k3 (by omega)];exact g2 (by omega)⟩
 | gr' ρ id i m li v hb hg h0=>
  obtain ⟨li',h1,h2⟩:=hr _ _ hb
  refine .gr' _ _ _ _ _ _ h1 (fun v0 sz rows e=>?_) h0
  subst e
  obtain ⟨v1,sz1,rows1,rfl⟩:=LI.zgD h2
  obtain ⟨rfl,k2,k3,k4⟩:=LI.zkL h2 rfl
  obtain ⟨m',v',g1,g2,g3⟩:=hg _ _ _ rfl
  rcases k4 i m' v' g1 with h5|⟨m2,x2,h5,h6⟩
  · exact ⟨m',v',h5,g2,g3⟩
  · exact ⟨m2,x2,h5,by omega,fun e=>by omega⟩
 | sb ρ id n a b n' sz v v' hb hle h0 he=>
  obtain ⟨li',h1,h2⟩:=hr _ _ hb
  rcases h2 with rfl|⟨m,m',sz',u,u',h2,rfl,h3⟩|⟨_,_,_,_,_,h2,_⟩|⟨_,_,_,_,_,h2,_⟩|⟨_,_,_,h2,_⟩
  · exact .sb _ _ _ _ _ _ _ _ _ h1 hle h0 he
  · cases h2;exact .sb _ _ _ _ _ _ _ _ _ h1 (by omega) h0 (fun e=>by omega)
  · cases h2
  · cases h2
  · cases h2
 | ge ρ id i m j off li v hb h0 hg=>
  obtain ⟨li',h1,h2⟩:=hr _ _ hb
  refine .ge _ _ _ _ _ _ _ _ h1 h0 (fun v0 sz rows e=>?_)
  subst e
  obtain ⟨v1,sz1,rows1,rfl⟩:=LI.zgD h2
  obtain ⟨rfl,k2,k3,k4⟩:=LI.zkL h2 rfl
  obtain ⟨m',v',g1,g2,g3⟩:=hg _ _ _ rfl
  rcases k4 i m' v' g1 with h5|⟨m2,x2,h5,h6⟩
  · exact ⟨m',v',h5,g2,g3⟩
  · exact ⟨m2,x2,h5,by omega,fun e=>by omega⟩
theorem Rel.closed {h:Hp} {ρ:Rho} {a:AV} {v:Value} (H:Rel h ρ0 a v):Rel h ρ a v:=H.mono (Le.refl h) (fun _ _ h=>by cases h)
theorem Rel.heap {h h':Hp} {ρ:Rho} {a:AV} {v:Value} (H:Rel h ρ a v) (hh:Le h h'):Rel h' ρ a v:=H.mono hh (fun _ li h=>⟨li,h,.inl rfl⟩)
mutual
/-- Does a value name no owned block? -/
def AV.cl:AV→Bool
 | .lp _ _|.buf _ _|.ep _ _ _ _|.mp _|.gb _ _|.gp _ _ _|.gr' _ _ _|.ge _ _ _ _ _|.sb _ _ _ _=>false
 | .agg cs|.tup cs=>clL cs
 | .fn _ fs cs=>clL fs && clL cs
 | .ifc _ v|.cnd _ v|.ns _ v=>v.cl
 | .pin _ _=>true
 | _=>true
def clL:List AV→Bool
 | []=>true
 | c::cs=>c.cl && clL cs
end
theorem ze6:∀ {cs:List AV} {i:Nat} {c:AV},clL cs=true→cs[i]? = some c→c.cl=true
 | [],i,c,_,h=>by simp at h
 | x::cs,0,c,hc,h=>by
  simp only [clL,Bool.and_eq_true] at hc
  simp at h;rw [← h];exact hc.1
 | x::cs,i+1,c,hc,h=>by
  simp only [clL,Bool.and_eq_true] at hc
  simp only [List.getElem?_cons_succ] at h
  exact ze6 hc.2 h
theorem Rel.zdO {h:Hp} {ρ ρ':Rho} {a:AV} {v:Value} (H:Rel h ρ a v) (hc:a.cl=true):Rel h ρ' a v:=by
 induction H generalizing ρ' with
 | any ρ v=>exact .any _ _
 | one _ _ h1=>exact .one _ _ h1
 | nilS=>exact .nilS _
 | nilFn=>exact .nilFn _
 | nilPtr=>exact .nilPtr _
 | nilMap=>exact .nilMap _
 | nilIfc=>exact .nilIfc _
 | bool=>exact .bool _ _
 | int=>exact .int _ _ _
 | agg ρ cs vs hl hc' ih=>exact .agg _ _ _ hl fun i c v h1 h2=>ih i c v h1 h2 (ze6 (by simpa [AV.cl] using hc) h1)
 | tup ρ cs vs hl hc' ih=>exact .tup _ _ _ hl fun i c v h1 h2=>ih i c v h1 h2 (ze6 (by simpa [AV.cl] using hc) h1)
 | ro ρ sz n e a cap hnil hcap hsz hs h1 hc' ih=>exact .ro _ _ _ _ _ _ hnil hcap hsz hs h1 hc'
 | rp ρ cs ad hs hc' ih=>exact .rp _ _ _ hs hc'
 | lp ρ id off b hb=>simp [AV.cl] at hc
 | buf ρ id n n' sz v v' hb hle h1 he=>simp [AV.cl] at hc
 | ep ρ id n i off n' sz v v' hb hle h1 he=>simp [AV.cl] at hc
 | fn ρ f fs cs vs ws hl hm hc' hd ih1 ih2=>
  simp only [AV.cl,Bool.and_eq_true] at hc
  exact .fn _ _ _ _ _ _ hl hm (fun i c v h1 h2=>ih1 i c v h1 h2 (ze6 hc.1 h1)) (fun i c v h1 h2=>ih2 i c v h1 h2 (ze6 hc.2 h1))
 | clo ρ f fs cs v hv ih=>exact .clo _ _ _ _ _ hv
 | mp ρ id li b hb hm=>simp [AV.cl] at hc
 | romN ρ z dom e hdom hz=>exact .romN _ _ _ _ hdom hz
 | ns ρ b a v hv hn ih=>exact .ns _ _ _ _ (ih (by simpa [AV.cl] using hc)) hn
 | pin ρ hp a v hl hv ih=>exact .pin _ _ _ _ hl hv
 | rom ρ z dom e n r es clock ks hR hks hlen hel hk hborn hbd hdom hz hc' ihz ih=>exact .rom _ _ _ _ _ _ _ _ _ hR hks hlen hel hk hborn hbd hdom hz hc'
 | ifc ρ t a v hv ih=>exact .ifc _ _ _ _ (ih (by simpa [AV.cl] using hc))
 | cnd ρ g a v ht hf ih=>exact .cnd _ _ _ _ (fun hg=>ih hg (by simpa [AV.cl] using hc)) hf
 | raw=>exact .raw _ _
 | nz ρ n b hb=>exact .nz _ _ _ hb
 | po ρ b cs v ht hf ih=>exact .po _ _ _ _ (fun hg=>ih hg rfl) hf
 | gb|gp|gr'|ge|sb=>simp [AV.cl] at hc
mutual
/-- Does a value reach no memory at all? -/
def AV.gr:AV→Bool
 | .lp _ _|.buf _ _|.ep _ _ _ _|.mp _|.ro _ _ _|.rp _|.po _ _|.rom _ _ _ _|.clo _ _ _|.pin _ _|.gb _ _|.gp _ _ _|.gr' _ _ _|.ge _ _ _ _ _|.sb _ _ _ _=>false
 | .agg cs|.tup cs=>grL cs
 | .fn _ fs cs=>grL fs && grL cs
 | .ifc _ v|.cnd _ v|.ns _ v=>v.gr
 | _=>true
def grL:List AV→Bool
 | []=>true
 | c::cs=>c.gr && grL cs
end
theorem zjs:∀ {cs:List AV} {i:Nat} {c:AV},grL cs=true→cs[i]? = some c→c.gr=true
 | [],i,c,_,h=>by simp at h
 | x::cs,0,c,hc,h=>by
  simp only [grL,Bool.and_eq_true] at hc
  simp at h;rw [← h];exact hc.1
 | x::cs,i+1,c,hc,h=>by
  simp only [grL,Bool.and_eq_true] at hc
  simp only [List.getElem?_cons_succ] at h
  exact zjs hc.2 h
theorem Rel.zqY {h h':Hp} {ρ ρ':Rho} {a:AV} {v:Value} (H:Rel h ρ a v) (hc:a.gr=true):Rel h' ρ' a v:=by
 induction H generalizing ρ' with
 | any ρ v=>exact .any _ _
 | one _ _ h1=>exact .one _ _ h1
 | nilS=>exact .nilS _
 | nilFn=>exact .nilFn _
 | nilPtr=>exact .nilPtr _
 | nilMap=>exact .nilMap _
 | nilIfc=>exact .nilIfc _
 | bool=>exact .bool _ _
 | int=>exact .int _ _ _
 | agg ρ cs vs hl hc' ih=>exact .agg _ _ _ hl fun i c v h1 h2=>ih i c v h1 h2 (zjs (by simpa [AV.gr] using hc) h1)
 | tup ρ cs vs hl hc' ih=>exact .tup _ _ _ hl fun i c v h1 h2=>ih i c v h1 h2 (zjs (by simpa [AV.gr] using hc) h1)
 | ro|rp|lp|buf|ep|mp|rom|romN|clo|po|pin=>simp [AV.gr] at hc
 | ns ρ b a v hv hn ih=>exact .ns _ _ _ _ (ih (by simpa [AV.gr] using hc)) hn
 | fn ρ f fs cs vs ws hl hm hc' hd ih1 ih2=>
  simp only [AV.gr,Bool.and_eq_true] at hc
  exact .fn _ _ _ _ _ _ hl hm (fun i c v h1 h2=>ih1 i c v h1 h2 (zjs hc.1 h1)) (fun i c v h1 h2=>ih2 i c v h1 h2 (zjs hc.2 h1))
 | ifc ρ t a v hv ih=>exact .ifc _ _ _ _ (ih (by simpa [AV.gr] using hc))
 | cnd ρ g a v ht hf ih=>exact .cnd _ _ _ _ (fun hg=>ih hg (by simpa [AV.gr] using hc)) hf
 | raw=>exact .raw _ _
 | nz ρ n b hb=>exact .nz _ _ _ hb
 | gb|gp|gr'|ge|sb=>simp [AV.gr] at hc
def ze3:Value→AV
 | .bool b=>.bool b
 | .int k n=>.int k n
 | .slice none 0 0=>.nilS
 | .nilFunc=>.nilFn
 | .pointer none=>.nilPtr
 | .map none=>.nilMap
 | .nilIface=>.nilIfc
 | v=>.raw v
theorem Rel.ze3 (h:Hp) (ρ:Rho) (v:Value):Rel h ρ (Av.ze3 v) v:=by
 unfold Av.ze3
 split <;> constructor
end Go.Av
end
/- The state of an activation: temporaries and owned blocks as abstract values; the one law by which a state turns. -/
section
set_option linter.all false
namespace Go.Av
inductive Blk where
 | cells (cs:List AV)
 | buf (ty sz n:Nat) (e:Nat→List AV)
 | map (z:Value) (dom:Int→Bool) (e:Int→AV) (n:Nat)
 | dead
 | grid (tS ty sz n:Nat) (m:Nat→Nat) (e:Nat→Nat→List AV)
 | bufk (ty sz n c:Nat) (e:Nat→List AV)
 | iter (e:Int→AV) (cur:Option Int) (Pl:List Int→Prop)
 | gmap (ty sz n:Nat) (dom:Int→Bool) (m:Int→Nat) (e:Int→Nat→List AV) (out:Option (Int×AV))
 | rows (ty sz:Nat) (hd:Int→Value) (dom:Int→Bool) (m:Int→Nat) (e:Int→Nat→List AV) (out:Option (Int×AV))
structure Ctx where
 w0:World
 h0:Hp
 bor:Nat→Prop
 gh:Nat→(Nat→Prop)→World→Prop
 savA:List AV
 savV:List Value
 gh_step:∀ g (X X':Nat→Prop) (w w':World),gh g X w→w'.os=w.os→w'.tape=w.tape→w'.output=w.output→w.heap.size≤w'.heap.size→(∀ k,k<w.heap.size→¬ X k→w'.heap[k]? = w.heap[k]?) →
  (∀ b,X' b→X b∨w.heap.size≤b)→gh g X' w'
structure RowsOk (h:Hp) (w:World) (ty sz:Nat) (m:Int→Nat) (e:Int→Nat→List AV) (R:Int→Option (Nat×Value)):Prop where
 row:∀ (k:Int) (c:Nat) (v:Value),R k=some (c,v)→c=m k∧v.oneCell'=true∧∃ xs:List Value,w.ownsRow 0 ty sz v c xs∧(∀ j,j<m k→(e k j).length=sz)∧(∀ y,y∈xs→y.oneCell'=true) ∧
  ∀ (j q:Nat) (x:AV) (y:Value),j<m k→(e k j)[q]? = some x→xs[j * sz+q]? = some y→Rel h ρ0 x y
 dis:∀ (k k':Int) (c c':Nat) (v v':Value) (b:Nat),R k=some (c,v)→R k'=some (c',v')→v.ownBlock=some b→v'.ownBlock=some b→k=k'
def zbN (h:Hp) (ρ:Rho) (id:Nat):Blk→World→Prop
 | .cells cs,w=>∃ (b:Nat) (vs:List Value) (ty:TypeId),ρ id=some (.blk b)∧w.heap[b]? = some (.cells vs.toArray ty (0,0))∧vs.length=cs.length ∧
  ∀ (i:Nat) (c:AV) (v:Value),cs[i]? = some c→vs[i]? = some v→Rel h ρ c v
 | .buf ty sz n e,w=>∃ (v:Value) (xs:List Value),ρ id=some (.sl n sz v)∧w.ownsRow 0 ty sz v n xs∧(∀ i,i<n→(e i).length=sz)∧(∀ x,x∈xs→x.oneCell'=true) ∧
  ∀ (i j:Nat) (c:AV) (x:Value),i<n→(e i)[j]? = some c→xs[i * sz+j]? = some x→Rel h ρ0 c x
 | .map z dom e n,w=>∃ (b:Nat) (es:List MapEntry) (clock:Nat) (ks:List Int),ρ id=some (.blk b)∧w.heap[b]? = some (.map es.toArray clock)∧ks.Nodup∧ks.length=n∧es.length=n ∧
  (∀ (i:Nat) (k:Int) (x:MapEntry),ks[i]? = some k→es[i]? = some x→x.key = .int .i64 k)∧(∀ x∈es,x.born<clock)∧(es.map (·.born)).Nodup∧(∀ k,dom k=true↔k∈ks)∧(∀ k,dom k=false→Rel h ρ0 (e k) z) ∧
  ∀ (i:Nat) (k:Int) (x:MapEntry),ks[i]? = some k→es[i]? = some x→Rel h ρ0 (e k) x.val
 | .bufk ty sz n c e,w=>∃ (v:Value) (xs:List Value),ρ id=some (.sl n sz v)∧w.ownsRow 0 ty sz v n xs∧(∃ g cap,v = .slice (some ⟨g,0,none⟩) n cap∧c≤cap)∧(∀ i,i<n→(e i).length=sz)∧(∀ x,x∈xs→x.oneCell'=true) ∧
  ∀ (i j:Nat) (c:AV) (x:Value),i<n→(e i)[j]? = some c→xs[i * sz+j]? = some x→Rel h ρ0 c x
 | .dead,_=>∃ n sz,ρ id=some (.sl n sz (.slice none 0 0))
 | .iter e cur Pl,w=>∃ (b:Nat) (bmo:Option Nat) (clock c0:Nat) (es:List MapEntry) (seen:Array Nat) (left:List Int),ρ id=some (.blk b)∧w.heap[b]? = some (.mapIter bmo clock seen c0)∧((∀ bm,bmo=some bm→h bm=some (.map es.toArray clock))∧(bmo=none→es=[]))∧(∀ x∈es,x.born<clock)∧(es.map (·.born)).Nodup∧clock≤c0 ∧
  (leftOf es.toArray seen).toList.map (·.key)=left.map (fun k=>Value.int .i64 k)∧Pl left∧(∀ x∈es,∃ k,x.key = .int .i64 k∧Rel h ρ0 (e k) x.val)∧∀ k,cur=some k→c0=clock∧∃ (x:MapEntry) (s:Array Nat),x∈es∧x.key = .int .i64 k∧seen=s.push x.born
 | .grid tS ty sz n m e,w=>∃ (v:Value) (rows:List (Nat×Value)),ρ id=some (.grid v sz rows)∧rows.length=n∧w.ownsRow 0 tS 1 v n (rows.map (·.2)) ∧
  (∀ (i:Nat) (x:Nat×Value),rows[i]? = some x→x.1=m i∧x.2.oneCell'=true∧∃ xs:List Value,w.ownsRow 0 ty sz x.2 x.1 xs∧(∀ j,j<m i→(e i j).length=sz)∧(∀ y,y∈xs→y.oneCell'=true) ∧
   ∀ (j k:Nat) (c:AV) (y:Value),j<m i→(e i j)[k]? = some c→xs[j * sz+k]? = some y→Rel h ρ0 c y) ∧
  (∀ (i i':Nat) (x x':Nat×Value) (b:Nat),rows[i]? = some x→rows[i']? = some x'→x.2.ownBlock=some b→x'.2.ownBlock=some b→i=i') ∧
  ∀ (i:Nat) (x:Nat×Value) (b:Nat),rows[i]? = some x→x.2.ownBlock=some b→v.ownBlock≠some b
 | .gmap ty sz n dom m e out,w=>∃ (b:Nat) (es:List MapEntry) (clock:Nat) (ks:List Int) (R:Int→Option (Nat×Value)),ρ id=some (.rows (some b) R)∧w.heap[b]? = some (.map es.toArray clock)∧ks.Nodup∧ks.length=n∧es.length=n ∧
  (∀ (i:Nat) (k:Int) (x:MapEntry),ks[i]? = some k→es[i]? = some x→x.key = .int .i64 k)∧(∀ x∈es,x.born<clock)∧(es.map (·.born)).Nodup∧(∀ k,dom k=true↔k∈ks) ∧
  (∀ (i:Nat) (k:Int) (x:MapEntry),ks[i]? = some k→es[i]? = some x→(∀ a,out=some (k,a)→Rel h ρ a x.val)∧((∀ a,out≠some (k,a))→R k=some (m k,x.val))) ∧
  (∀ (k:Int) (a:AV),out=some (k,a)→R k=none∧(dom k=false→Rel h ρ a (.slice none 0 0)))∧(∀ (k:Int) (c:Nat) (v:Value),R k=some (c,v)→dom k=true∧v.ownBlock≠some b)∧RowsOk h w ty sz m e R
 | .rows ty sz hd dom m e out,w=>∃ R:Int→Option (Nat×Value),ρ id=some (.rows none R)∧(∀ k,(∀ a,out≠some (k,a))→R k=if dom k then some (m k,hd k) else none) ∧
  (∀ (k:Int) (a:AV),out=some (k,a)→R k=none∧Rel h ρ a (hd k))∧RowsOk h w ty sz m e R
def mapO (f:AV→AV):Option (Int×AV)→Option (Int×AV)
 | some (k,a)=>some (k,f a)
 | none=>none
theorem zf7 {f:AV→AV} {out:Option (Int×AV)} {k:Int} {a:AV} (H:mapO f out=some (k,a)):∃ a0,out=some (k,a0)∧a=f a0:=by
 cases out with
 | none=>cases H
 | some p=>obtain ⟨k0,a0⟩:=p;simp only [mapO] at H;cases H;exact ⟨a0,rfl,rfl⟩
theorem zoN {f:AV→AV} {out:Option (Int×AV)} {k:Int} (H:∀ a,mapO f out≠some (k,a)):∀ a,out≠some (k,a):=fun a e=>H (f a) (by rw [e];rfl)
theorem zbN.zkR {h:Hp} {ρ ρ':Rho} {id id':Nat} {w:World} {ty sz n:Nat} {dom:Int→Bool} {m:Int→Nat} {e:Int→Nat→List AV} {out:Option (Int×AV)} (f:AV→AV) (H:zbN h ρ id (.gmap ty sz n dom m e out) w) (hid:ρ' id'=ρ id)
 (hf:∀ k a v,out=some (k,a)→Rel h ρ a v→Rel h ρ' (f a) v):zbN h ρ' id' (.gmap ty sz n dom m e (mapO f out)) w:=by
 obtain ⟨b,es,clock,ks,R,h1,h2,h3,h4,h5,h6,h7,h8,h9,h10,h11,h12,h13⟩:=H
 refine ⟨b,es,clock,ks,R,hid.trans h1,h2,h3,h4,h5,h6,h7,h8,h9,fun i k x hk hx=>⟨fun a ha=>?_,fun ha=>(h10 i k x hk hx).2 (zoN ha)⟩,fun k a ha=>?_,h12,h13⟩
 · obtain ⟨a0,e1,rfl⟩:=zf7 ha
   exact hf k a0 _ e1 ((h10 i k x hk hx).1 a0 e1)
 · obtain ⟨a0,e1,rfl⟩:=zf7 ha
   exact ⟨(h11 k a0 e1).1,fun hd=>hf k a0 _ e1 ((h11 k a0 e1).2 hd)⟩
theorem zbN.zkD {h:Hp} {ρ ρ':Rho} {id id':Nat} {w:World} {ty sz:Nat} {hd:Int→Value} {dom:Int→Bool} {m:Int→Nat} {e:Int→Nat→List AV} {out:Option (Int×AV)} (f:AV→AV) (H:zbN h ρ id (.rows ty sz hd dom m e out) w) (hid:ρ' id'=ρ id)
 (hf:∀ k a v,out=some (k,a)→Rel h ρ a v→Rel h ρ' (f a) v):zbN h ρ' id' (.rows ty sz hd dom m e (mapO f out)) w:=by
 obtain ⟨R,h1,h2,h3,h4⟩:=H
 refine ⟨R,hid.trans h1,fun k hk=>h2 k (zoN hk),fun k a ha=>?_,h4⟩
 obtain ⟨a0,e1,rfl⟩:=zf7 ha
 exact ⟨(h3 k a0 e1).1,hf k a0 _ e1 (h3 k a0 e1).2⟩
theorem zkH (out:Option (Int×AV)):mapO (fun a=>a) out=out:=by cases out <;> rfl
def zcw (ρ:Rho) (b:Nat):Prop:=∃ id li,ρ id=some li∧li.owns b
abbrev Fr:=Nat→AV
abbrev Mm:=Nat→Option Blk
structure InvH (N:Nat) (C:Ctx) (h:Hp) (ρ:Rho) (F:Fr) (M:Mm) (g:Nat) (a:Act) (w:World):Prop where
 slot:∀ t,Rel h ρ (F t) (a.tmps.getD t undef)
 sav:C.savV.length=C.savA.length∧∀ (i:Nat) (c:AV) (v:Value),C.savA[i]? = some c→C.savV[i]? = some v→Rel h ρ c v
 size:a.tmps.size=N
 hp:∀ b o,h b=some o→w.heap[b]? = some o
 blk:∀ id x,M id=some x→zbN h ρ id x w
 dom:∀ id,M id=none→ρ id=none
 own:∀ id li b,ρ id=some li→li.owns b→h b=none∧b<w.heap.size∧(C.w0.heap.size≤b∨C.bor b)
 inj:∀ id id' li li' b,ρ id=some li→ρ id'=some li'→li.owns b→li'.owns b→id=id'
 os:w.os=C.w0.os
 tape:w.tape=C.w0.tape
 out:w.output=C.w0.output
 sz:C.w0.heap.size≤w.heap.size
 kept:∀ k,k<C.w0.heap.size→¬ C.bor k→w.heap[k]? = C.w0.heap[k]?
 ext:∀ b o,C.h0 b=some o→h b=some o
 old:∀ b o,h b=some o→b<C.w0.heap.size→C.h0 b=some o
 gst:∃ X:Nat→Prop,(∀ b,zcw ρ b→X b)∧(∀ b o,h b=some o→C.h0 b=some o∨X b)∧C.gh g X w
 dfr:∃ Ds:List Nat,a.defers=Ds.map (fun D=>{ target:=.collected D,args:=#[] })∧Ds.Nodup∧∀ D,D∈Ds→h D=some (.deferred (some []))∧C.w0.heap.size≤D
theorem zgc {w:World} {b:Nat} {o:Obj} (h:w.heap[b]? = some o):b<w.heap.size:=(Array.getElem?_eq_some_iff.1 h).1
theorem InvH.hlt {N:Nat} {C:Ctx} {h:Hp} {ρ:Rho} {F:Fr} {M:Mm} {g:Nat} {a:Act} {w:World} (I:InvH N C h ρ F M g a w) {b:Nat} {o:Obj} (hb:h b=some o):b<w.heap.size:=zgc (I.hp b o hb)
theorem zec {w w':World} {base:Nat} {e:TypeId} {size:Nat} {v:Value} {n:Nat} {xs:List Value} (H:w.ownsRow base e size v n xs) (hk:∀ b,v.ownBlock=some b→w'.heap[b]? = w.heap[b]?):w'.ownsRow base e size v n xs:=by
 refine ⟨H.1,?_⟩
 rcases H.2 with hn|⟨g,cap,cur,rfl,hb,hgg,rest⟩
 · exact .inl hn
 · refine .inr ⟨g,cap,cur,rfl,hb,?_,rest⟩
   rw [hk g (by simp [Value.ownBlock])];exact hgg
theorem RowsOk.keep {h h':Hp} {w w':World} {ty sz:Nat} {m:Int→Nat} {e:Int→Nat→List AV} {R:Int→Option (Nat×Value)} (H:RowsOk h w ty sz m e R) (hh:Le h h') (hk:∀ k c v b,R k=some (c,v)→v.ownBlock=some b→w'.heap[b]? = w.heap[b]?):RowsOk h' w' ty sz m e R:=by
 refine ⟨fun k c v hR=>?_,H.dis⟩
 obtain ⟨q0,q1,xs,q2,q3,q4,q5⟩:=H.row k c v hR
 exact ⟨q0,q1,xs,zec q2 (fun b hb=>hk k c v b hR hb),q3,q4,fun j q x y a1 a2 a3=>(q5 j q x y a1 a2 a3).heap hh⟩
theorem zbN.keep {h h':Hp} {ρ ρ':Rho} {id:Nat} {x:Blk} {w w':World} (H:zbN h ρ id x w) (hh:Le h h') (hid:ρ' id=ρ id)
 (hr:∀ id li,ρ id=some li→∃ li',ρ' id=some li'∧li.le li') (hk:∀ li b,ρ id=some li→li.owns b→w'.heap[b]? = w.heap[b]?):zbN h' ρ' id x w':=by
 cases x with
 | cells cs=>
  obtain ⟨b,vs,ty,h1,h2,h3,h4⟩:=H
  exact ⟨b,vs,ty,hid.trans h1,(hk _ b h1 rfl).trans h2,h3,fun i c v hc hv=>(h4 i c v hc hv).mono hh hr⟩
 | buf ty sz n e=>
  obtain ⟨v,xs,h1,h2,h3,h5,h4⟩:=H
  exact ⟨v,xs,hid.trans h1,zec h2 (fun b hb=>hk _ b h1 hb),h3,h5,fun i j c x hi hc hx=>(h4 i j c x hi hc hx).heap hh⟩
 | map z dom e n=>
  obtain ⟨b,es,clock,ks,h1,h2,h3,h4,h5,h6,h7,h8,h9,hz,h10⟩:=H
  exact ⟨b,es,clock,ks,hid.trans h1,(hk _ b h1 rfl).trans h2,h3,h4,h5,h6,h7,h8,h9,fun k hd=>(hz k hd).heap hh,fun i k x hk' hx=>(h10 i k x hk' hx).heap hh⟩
 | bufk ty sz n c e=>
  obtain ⟨v,xs,h1,h2,h6,h3,h5,h4⟩:=H
  exact ⟨v,xs,hid.trans h1,zec h2 (fun b hb=>hk _ b h1 hb),h6,h3,h5,fun i j c x hi hc hx=>(h4 i j c x hi hc hx).heap hh⟩
 | dead=>
  obtain ⟨n,sz,h1⟩:=H
  exact ⟨n,sz,hid.trans h1⟩
 | iter e cur Pl=>
  obtain ⟨b,bm,clock,c0,es,seen,left,h1,h2,h3,h4,h5,h6,h7,h8,h9,h10⟩:=H
  refine ⟨b,bm,clock,c0,es,seen,left,hid.trans h1,(hk _ b h1 rfl).trans h2,⟨fun bm hb=>hh _ _ (h3.1 bm hb) (by simp) (by simp),h3.2⟩,h4,h5,h6,h7,h8,fun x hx=>?_,h10⟩
  obtain ⟨k,k1,k2⟩:=h9 x hx
  exact ⟨k,k1,k2.heap hh⟩
 | grid tS ty sz n m e=>
  obtain ⟨v,rows,h1,h2,h3,h4,h5,h6⟩:=H
  refine ⟨v,rows,hid.trans h1,h2,zec h3 (fun b hb=>hk _ b h1 (.inl hb)),fun i x hx=>?_,h5,h6⟩
  obtain ⟨q0,q1,xs,q2,q3,q4,q5⟩:=h4 i x hx
  exact ⟨q0,q1,xs,zec q2 (fun b hb=>hk _ b h1 (.inr ⟨x,List.mem_of_getElem? hx,hb⟩)),q3,q4,fun j k c y a1 a2 a3=>(q5 j k c y a1 a2 a3).heap hh⟩
 | gmap ty sz n dom m e out=>
  obtain ⟨b,es,clock,ks,R,h1,h2,h3,h4,h5,h6,h7,h8,h9,h10,h11,h12,h13⟩:=H
  exact ⟨b,es,clock,ks,R,hid.trans h1,(hk _ b h1 (.inl rfl)).trans h2,h3,h4,h5,h6,h7,h8,h9,fun i k x hk' hx=>⟨fun a ha=>((h10 i k x hk' hx).1 a ha).mono hh hr,(h10 i k x hk' hx).2⟩,fun k a ha=>⟨(h11 k a ha).1,fun hd=>((h11 k a ha).2 hd).mono hh hr⟩,h12,
   h13.keep hh (fun k c v b' hR hb=>hk _ b' h1 (.inr ⟨k,c,v,hR,hb⟩))⟩
 | rows ty sz hd dom m e out=>
  obtain ⟨R,h1,h2,h3,h4⟩:=H
  exact ⟨R,hid.trans h1,h2,fun k a ha=>⟨(h3 k a ha).1,(h3 k a ha).2.mono hh hr⟩,h4.keep hh (fun k c v b' hR hb=>hk _ b' h1 (.inr ⟨k,c,v,hR,hb⟩))⟩
theorem InvH.step {N:Nat} {C:Ctx} {h h':Hp} {ρ ρ':Rho} {F:Fr} {M M':Mm} {g:Nat} {a:Act} {w w':World} {S:Nat→Prop} (I:InvH N C h ρ F M g a w)
 (hos:w'.os=w.os) (htape:w'.tape=w.tape) (hout:w'.output=w.output) (hsz:w.heap.size≤w'.heap.size)
 (hk:∀ k,k<w.heap.size→(∀ id li,S id→ρ id=some li→¬ li.owns k)→w'.heap[k]? = w.heap[k]?)
 (hρ:∀ id,¬ S id→ρ' id=ρ id) (hle:∀ id li,ρ id=some li→∃ li',ρ' id=some li'∧li.le li')
 (hh:∀ b o,h b=some o→h' b=some o) (hnew:∀ b o,h' b=some o→h b=some o∨(w.heap.size≤b∧w'.heap[b]? = some o))
 (hM:∀ id,¬ S id→M' id=M id) (hMn:∀ id,S id→M' id=none→ρ' id=none) (hMs:∀ id x,S id→M' id=some x→zbN h' ρ' id x w')
 (hown:∀ id li b,S id→ρ' id=some li→li.owns b→(∃ id0 li0,S id0∧ρ id0=some li0∧li0.owns b)∨(w.heap.size≤b∧b<w'.heap.size∧h' b=none))
 (hinj:∀ id id' li li' b,S id→S id'→ρ' id=some li→ρ' id'=some li'→li.owns b→li'.owns b→id=id'):InvH N C h' ρ' F M' g a w':=by
 have hLe:Le h h':=Le.of hh
 -- each owned block of ρ' is an old one of the same name,or a new one
 have old:∀ id li b,ρ' id=some li→li.owns b→(∃ id0 li0,(S id→S id0)∧(¬ S id→id0=id)∧ρ id0=some li0∧li0.owns b)∨(S id∧w.heap.size≤b∧b<w'.heap.size∧h' b=none):=by
  intro id li b h1 h2
  by_cases hs:S id
  · rcases hown id li b hs h1 h2 with ⟨id0,li0,h3,h4⟩|h3
    · exact .inl ⟨id0,li0,fun _=>h3,fun h=>absurd hs h,h4⟩
    · exact .inr ⟨hs,h3⟩
  · exact .inl ⟨id,li,fun h=>absurd h hs,fun _=>rfl,(hρ id hs)▸h1,h2⟩
 have kept':∀ b,h b≠none→w'.heap[b]? = w.heap[b]? := by
  intro b hb
  cases ho:h b with
  | none=>exact absurd ho hb
  | some o=>
   refine hk b (I.hlt ho) fun id li _ h1 h2=>?_
   have:=(I.own id li b h1 h2).1
   rw [ho] at this;cases this
 refine ⟨fun t=>(I.slot t).mono hLe hle,⟨I.sav.1,fun i c v h1 h2=>(I.sav.2 i c v h1 h2).mono hLe hle⟩,I.size,?_,?_,?_,?_,?_,hos.trans I.os,htape.trans I.tape,hout.trans I.out,Nat.le_trans I.sz hsz,?_,fun b o hb=>hh b o (I.ext b o hb),fun b o hb hlt=>?_,?_,?_⟩
 · intro b o hb
   rcases hnew b o hb with h1|⟨_,h1⟩
   · rw [kept' b (by rw [h1];simp)];exact I.hp b o h1
   · exact h1
 · intro id x hx
   by_cases hs:S id
   · exact hMs id x hs hx
   · rw [hM id hs] at hx
     refine (I.blk id x hx).keep hLe (hρ id hs) hle fun li b h1 h2=>?_
     refine hk b (I.own id li b h1 h2).2.1 fun id' li' hs' h1' h2'=>?_
     exact hs (I.inj id id' li li' b h1 h1' h2 h2'▸hs')
 · intro id hid
   by_cases hs:S id
   · exact hMn id hs hid
   · rw [hM id hs] at hid;rw [hρ id hs];exact I.dom id hid
 · intro id li b h1 h2
   rcases old id li b h1 h2 with ⟨id0,li0,_,_,h3,h4⟩|⟨_,h3,h4,h5⟩
   · obtain ⟨p,q,r⟩:=I.own id0 li0 b h3 h4
     refine ⟨?_,Nat.lt_of_lt_of_le q hsz,r⟩
     cases ho:h' b with
     | none=>rfl
     | some o=>
      rcases hnew b o ho with h5|⟨h5,_⟩
      · rw [p] at h5;cases h5
      · omega
   · exact ⟨h5,h4,.inl (Nat.le_trans I.sz h3)⟩
 · intro id id' li li' b h1 h1' h2 h2'
   by_cases hs:S id
   · by_cases hs':S id'
     · exact hinj id id' li li' b hs hs' h1 h1' h2 h2'
     · rcases old id li b h1 h2 with ⟨id0,li0,k1,_,h3,h4⟩|⟨_,h3,_,_⟩
       · have e:=I.inj id0 id' li0 li' b h3 (by rw [← hρ id' hs'];exact h1') h4 h2'
         exact absurd (e▸k1 hs) hs'
       · have:=(I.own id' li' b (by rw [← hρ id' hs'];exact h1') h2').2.1;omega
   · by_cases hs':S id'
     · rcases old id' li' b h1' h2' with ⟨id0,li0,k1,_,h3,h4⟩|⟨_,h3,_,_⟩
       · have e:=I.inj id0 id li0 li b h3 (by rw [← hρ id hs];exact h1) h4 h2
         exact absurd (e▸k1 hs') hs
       · have:=(I.own id li b (by rw [← hρ id hs];exact h1) h2).2.1;omega
     · exact I.inj id id' li li' b (by rw [← hρ id hs];exact h1) (by rw [← hρ id' hs'];exact h1') h2 h2'
 · intro k hk0 hb
   rw [← I.kept k hk0 hb]
   refine hk k (Nat.lt_of_lt_of_le hk0 I.sz) fun id li _ h1 h2=>?_
   rcases (I.own id li k h1 h2).2.2 with h3|h3
   · omega
   · exact hb h3
 · rcases hnew b o hb with h1|⟨h1,_⟩
   · exact I.old b o h1 hlt
   · have:=I.sz;omega
 · obtain ⟨X,x1,x2,x3⟩:=I.gst
   refine ⟨fun b=>X b∨w.heap.size≤b,?_,fun b o hb=>?_,C.gh_step g X _ w w' x3 hos htape hout hsz (fun k hlt hX=>hk k hlt fun id li _ h1 h2=>hX (x1 _ ⟨id,li,h1,h2⟩)) (fun b hb=>hb)⟩
   · rintro b ⟨id,li,h1,h2⟩
     rcases old id li b h1 h2 with ⟨id0,li0,_,_,h3,h4⟩|⟨_,h3,_,_⟩
     · exact .inl (x1 b ⟨id0,li0,h3,h4⟩)
     · exact .inr h3
   · rcases hnew b o hb with h1|⟨h1,_⟩
     · rcases x2 b o h1 with h2|h2
       · exact .inl h2
       · exact .inr (.inl h2)
     · exact .inr (.inr h1)
 · obtain ⟨Ds,h1,h2,h3⟩:=I.dfr
   exact ⟨Ds,h1,h2,fun D hD=>⟨hh _ _ (h3 D hD).1,(h3 D hD).2⟩⟩
def put (F:Fr) (d:Nat) (v:AV):Fr:=fun t=>match Nat.beq t d with|true=>v|false=>F t
def putO (F:Fr):Option Tmp→AV→Fr
 | some d,v=>put F d v
 | none,_=>F
theorem zfw (F:Fr) (d:Nat) (v:AV):put F d v d=v:=by simp [put]
theorem zfe (F:Fr) {d t:Nat} (v:AV) (h:t≠d):put F d v t=F t:=by
 have:Nat.beq t d=false:=by
  cases hb:Nat.beq t d with
  | false=>rfl
  | true=>exact absurd (Nat.eq_of_beq_eq_true hb) h
 simp [put,this]
theorem InvH.put {N:Nat} {C:Ctx} {h:Hp} {ρ:Rho} {F:Fr} {M:Mm} {g:Nat} {a:Act} {w:World} (I:InvH N C h ρ F M g a w) {d:Option Tmp} {v:AV} {x:Value} (hd:∀ t,d=some t→t<N)
 (hv:Rel h ρ v x):InvH N C h ρ (putO F d v) M g (a.put d x) w:=by
 cases d with
 | none=>exact I
 | some d=>
  refine { I with slot:=fun t=>?_,size:=by simp [Act.put,I.size],dfr:=I.dfr }
  have hlt:=hd d rfl
  rw [← I.size] at hlt
  by_cases ht:t=d
  · subst ht
    simp only [putO,zfw,Act.put]
    simpa [hlt] using hv
  · simp only [putO,zfe F v ht,Act.put]
    have:=I.slot t
    simpa [Array.getElem?_setIfInBounds_ne (Ne.symm ht)] using this
def upd {α:Type} (f:Nat→α) (i:Nat) (x:α):Nat→α:=fun k=>match Nat.beq k i with|true=>x|false=>f k
theorem zaf {α:Type} (f:Nat→α) (i:Nat) (x:α):upd f i x i=x:=by simp [upd]
theorem zae {α:Type} (f:Nat→α) {i k:Nat} (x:α) (h:k≠i):upd f i x k=f k:=by
 have:Nat.beq k i=false:=by
  cases hb:Nat.beq k i with
  | false=>rfl
  | true=>exact absurd (Nat.eq_of_beq_eq_true hb) h
 simp [upd,this]
section
variable {N:Nat} {C:Ctx} {h:Hp} {ρ:Rho} {F:Fr} {M:Mm} {g:Nat} {a:Act} {w:World}
theorem zcU (ρ:Rho):∀ id li,ρ id=some li→∃ li',ρ id=some li'∧li.le li':=fun _ li h=>⟨li,h,.inl rfl⟩
theorem InvH.drew (I:InvH N C h ρ F M g a w):InvH N C h ρ F M g a w.drew:=
 I.step (S:=fun _=>False) rfl rfl rfl (Nat.le_refl _) (fun _ _ _=>rfl) (fun _ _=>rfl) (zcU ρ) (fun _ _ h=>h) (fun _ _ h=>.inl h) (fun _ _=>rfl) (fun _ h=>h.elim) (fun _ _ h=>h.elim)
  (fun _ _ _ h=>h.elim) (fun _ _ _ _ _ h=>h.elim)
theorem InvH.zeZ (I:InvH N C h ρ F M g a w) {id:Nat} (hid:M id=none) (o:Obj) (li:LI) (x:Blk) (hb:∀ b,li.owns b→b=w.heap.size) (hx:zbN h (upd ρ id (some li)) id x (w.alloc o)) :
 InvH N C h (upd ρ id (some li)) F (upd M id (some x)) g a (w.alloc o):=by
 have hρ:=I.dom id hid
 have hle:∀ i l,ρ i=some l→∃ l',upd ρ id (some li) i=some l'∧l.le l':=by
  intro i l hi
  have hne:i≠id:=by rintro rfl;rw [hρ] at hi;cases hi
  exact ⟨l,by rw [zae _ _ hne];exact hi,.inl rfl⟩
 refine I.step (S:=fun i=>i=id) rfl rfl rfl (by simp) (fun k hk _=>RowKit.Below.heap_alloc w o k hk) (fun i hi=>zae _ _ hi) hle (fun _ _ h=>h) (fun _ _ h=>.inl h) (fun i hi=>zae _ _ hi) ?_ ?_ ?_ ?_
 · rintro i rfl hM;rw [zaf] at hM;cases hM
 · rintro i y rfl hM;rw [zaf] at hM;cases hM;exact hx
 · rintro i l b rfl h1 h2
   rw [zaf] at h1;cases h1
   have:=hb b h2;subst this
   refine .inr ⟨Nat.le_refl _,by simp,?_⟩
   cases ho:h w.heap.size with
   | none=>rfl
   | some o'=>have:=I.hlt ho;omega
 · rintro i i' l l' b rfl rfl _ _ _ _;rfl
theorem InvH.zrk (I:InvH N C h ρ F M g a w) (o:Obj):InvH N C (upd h w.heap.size (some o)) ρ F M g a (w.alloc o):=by
 have hn:h w.heap.size=none:=by
  cases ho:h w.heap.size with
  | none=>rfl
  | some o'=>have:=I.hlt ho;omega
 refine I.step (S:=fun _=>False) rfl rfl rfl (by simp) (fun k hk _=>RowKit.Below.heap_alloc w o k hk) (fun _ _=>rfl) (zcU ρ) ?_ ?_ (fun _ _=>rfl) (fun _ h=>h.elim) (fun _ _ h=>h.elim) (fun _ _ _ h=>h.elim) (fun _ _ _ _ _ h=>h.elim)
 · intro b o' hb
   have hne:b≠w.heap.size:=by rintro rfl;rw [hn] at hb;cases hb
   rw [zae _ _ hne];exact hb
 · intro b o' hb
   by_cases hne:b=w.heap.size
   · subst hne
     rw [zaf] at hb;cases hb
     exact .inr ⟨Nat.le_refl _,heap_alloc_new w _⟩
   · rw [zae _ _ hne] at hb;exact .inl hb
theorem InvH.turn (I:InvH N C h ρ F M g a w) {id b:Nat} {w':World} (hb:ρ id=some (.blk b)) (x:Blk) (hos:w'.os=w.os) (htape:w'.tape=w.tape) (hout:w'.output=w.output) (hsz:w'.heap.size=w.heap.size)
 (hk:∀ k,k≠b→w'.heap[k]? = w.heap[k]?) (hx:zbN h ρ id x w'):InvH N C h ρ F (upd M id (some x)) g a w':=by
 refine I.step (S:=fun i=>i=id) hos htape hout (by omega) (fun k _ hne=>hk k (fun e=>hne id _ rfl hb (by rw [e];exact (rfl:some b=some b)))) (fun _ _=>rfl) (zcU ρ) (fun _ _ h=>h) (fun _ _ h=>.inl h)
  (fun i hi=>zae _ _ hi) ?_ ?_ ?_ ?_
 · rintro i rfl hM;rw [zaf] at hM;cases hM
 · rintro i y rfl hM;rw [zaf] at hM;cases hM;exact hx
 · rintro i l c rfl h1 h2;exact .inl ⟨i,l,rfl,h1,h2⟩
 · rintro i i' l l' c rfl rfl _ _ _ _;rfl
theorem InvH.zoi (I:InvH N C h ρ F M g a w) {id n n' sz:Nat} {v v':Value} {w':World} (hb:ρ id=some (.sl n sz v)) (x:Blk) (hle:(n=n'∧v=v')∨n<n')
 (hg:w.grownBy w' v.ownBlock) (hnb:∀ b,v'.ownBlock=some b→v.ownBlock=some b∨(w.heap.size≤b∧b<w'.heap.size))
 (hx:zbN h (upd ρ id (some (.sl n' sz v'))) id x w'):InvH N C h (upd ρ id (some (.sl n' sz v'))) F (upd M id (some x)) g a w':=by
 have hle':∀ i l,ρ i=some l→∃ l',upd ρ id (some (.sl n' sz v')) i=some l'∧l.le l':=by
  intro i l hi
  by_cases hne:i=id
  · subst hne
    rw [hb] at hi;cases hi
    refine ⟨_,zaf _ _ _,?_⟩
    rcases hle with ⟨rfl,rfl⟩|hlt
    · exact .inl rfl
    · exact .inr (.inl ⟨_,_,_,_,_,rfl,rfl,hlt⟩)
  · exact ⟨l,by rw [zae _ _ hne];exact hi,.inl rfl⟩
 refine I.step (S:=fun i=>i=id) hg.os hg.tape hg.output hg.size (fun k hk hne=>hg.block k hk (fun e=>hne id _ rfl hb e.symm)) (fun i hi=>zae _ _ hi) hle' (fun _ _ h=>h) (fun _ _ h=>.inl h)
  (fun i hi=>zae _ _ hi) ?_ ?_ ?_ ?_
 · rintro i rfl hM;rw [zaf] at hM;cases hM
 · rintro i y rfl hM;rw [zaf] at hM;cases hM;exact hx
 · rintro i l b rfl h1 h2
   rw [zaf] at h1;cases h1
   rcases hnb b h2 with h3|⟨h3,h4⟩
   · exact .inl ⟨_,_,rfl,hb,h3⟩
   · refine .inr ⟨h3,h4,?_⟩
     cases ho:h b with
     | none=>rfl
     | some o'=>have:=I.hlt ho;omega
 · rintro i i' l l' b rfl rfl _ _ _ _;rfl
theorem InvH.ziO (I:InvH N C h ρ F M g a w) {id:Nat} {li:LI} {w':World} (hb:ρ id=some li) (x:Blk) (hos:w'.os=w.os) (htape:w'.tape=w.tape) (hout:w'.output=w.output) (hsz:w'.heap.size=w.heap.size)
 (hk:∀ k,¬ li.owns k→w'.heap[k]? = w.heap[k]?) (hx:zbN h ρ id x w'):InvH N C h ρ F (upd M id (some x)) g a w':=by
 refine I.step (S:=fun i=>i=id) hos htape hout (by omega) (fun k _ hne=>hk k (fun e=>hne id _ rfl hb e)) (fun _ _=>rfl) (zcU ρ) (fun _ _ h=>h) (fun _ _ h=>.inl h)
  (fun i hi=>zae _ _ hi) ?_ ?_ ?_ ?_
 · rintro i rfl hM;rw [zaf] at hM;cases hM
 · rintro i y rfl hM;rw [zaf] at hM;cases hM;exact hx
 · rintro i l c rfl h1 h2;exact .inl ⟨i,l,rfl,h1,h2⟩
 · rintro i i' l l' c rfl rfl _ _ _ _;rfl
theorem InvH.below (I:InvH N C h ρ F M g a w) {w':World} {h':Hp} (hB:RowKit.Below w.heap.size w w') (hh:∀ b o,h b=some o→h' b=some o)
 (hnew:∀ b o,h' b=some o→h b=some o∨(w.heap.size≤b∧w'.heap[b]? = some o)):InvH N C h' ρ F M g a w':=
 I.step (S:=fun _=>False) hB.os hB.tape hB.output hB.size (fun k hk _=>hB.block k hk) (fun _ _=>rfl) (zcU ρ) hh hnew (fun _ _=>rfl) (fun _ h=>h.elim) (fun _ _ h=>h.elim)
  (fun _ _ _ h=>h.elim) (fun _ _ _ _ _ h=>h.elim)
end
end Go.Av
end
/- Combinators in which the printed definitions are written. No program, no abstract value. -/
section
set_option linter.all false
namespace Go.Av
def inI (n:Int):Prop:=-9223372036854775808≤n∧n≤9223372036854775807
def inU (n:Int):Prop:=0≤n∧n<18446744073709551616
instance (n:Int):Decidable (inU n):=inferInstanceAs (Decidable (_∧_))
def zku (n:Int):Int:=if 9223372036854775808≤n % 18446744073709551616 then n % 18446744073709551616 - 18446744073709551616 else n % 18446744073709551616
def andI (a b:Int):Int:=zku ((BitVec.ofInt 64 a &&& BitVec.ofInt 64 b).toNat:Int)
def room (n bytes:Nat):Prop:=n * bytes≤140737488355328∧n≤9223372036854775807
instance (n:Int):Decidable (inI n):=inferInstanceAs (Decidable (_∧_))
instance (n b:Nat):Decidable (room n b):=inferInstanceAs (Decidable (_∧_))
end Go.Av
namespace Go.Sp
def zib {S R:Type} (f:(S→R)→R) (k:S→R):R:=f k
def zaq {S R:Type} (body:Nat→S→(S→R)→R) (exit:S→R):Nat→Nat→S→R
 | 0,_,s=>exit s
 | n+1,i,s=>body i s (zaq body exit n (i+1))
def loopGo {S R:Type} (body:S→(S→Option R)→Option R):Nat→S→Option R
 | 0,_=>none
 | n+1,s=>body s (loopGo body n)
def ziy {A S R:Type} (body:A→S→(S→R)→R) (exit:S→R):List A→S→R
 | [],s=>exit s
 | x::l,s=>body x s (ziy body exit l)
def zkc {A:Type} (W:Bool) (x:A) (r:Option (List A)):Option (List A):=match W with
 | true=>match r with
  | some l=>some (x::l)
  | none=>none
 | false=>r
def zbA {T:Type} [Inhabited T] (l:List T) (a m:Nat) (src:Nat→T):List T:=(List.range l.length).map fun q=>if a≤q∧q<a+m then src (q - a) else l.getD q default
theorem zhB {T:Type} [Inhabited T] (l:List T) (a m:Nat) (f:Nat→T):(zbA l a m f).length=l.length:=by simp [zbA]
def must {R:Type} (c:Prop) [Decidable c] (x:Option R):Option R:=if c then x else none
def zam {S R:Type} (x:Option S) (k:S→Option R):Option R:=match x with
 | some s=>k s
 | none=>none
structure Mp (T:Type) where
 get:Int→Option T
 card:Nat
 keys:List Int
def Mp.empty {T:Type}:Mp T:=⟨fun _=>none,0,[]⟩
def Mp.set {T:Type} (m:Mp T) (k:Int) (x:T):Mp T:=⟨fun j=>if j=k then some x else m.get j,if (m.get k).isSome then m.card else m.card+1,if (m.get k).isSome then m.keys else m.keys++[k]⟩
def Mp.ok {T:Type} (m:Mp T):Prop:=m.keys.Nodup∧m.keys.length=m.card∧∀ k∈m.keys,(m.get k).isSome=true
instance {T:Type} (m:Mp T):Decidable m.ok:=inferInstanceAs (Decidable (_∧_∧_))
def mapAny (chk:Int→Option Bool):List Int→Option Bool
 | []=>some false
 | k::l=>match chk k with
  | some b=>match mapAny chk l with
   | some c=>some (b || c)
   | none=>none
  | none=>none
theorem Mp.perm {T:Type} {m:Mp T} (h:m.ok) {l:List Int} (hl:l.Nodup∧l.length=m.card∧∀ k,(m.get k).isSome=true↔k∈l):m.keys.Perm l:=by
 obtain ⟨h1,h2,h3⟩:=h
 obtain ⟨l1,l2,l3⟩:=hl
 rw [List.perm_ext_iff_of_nodup h1 l1]
 intro a
 refine ⟨fun ha=>(l3 a).1 (h3 a ha),fun ha=>?_⟩
 by_cases hk:a∈m.keys
 · exact hk
 · exfalso
   have:=(List.nodup_cons.2 ⟨hk,h1⟩).length_le_of_subset (l₂:=l) (fun x hx=>by
    rcases List.mem_cons.1 hx with rfl|hx
    · exact ha
    · exact (l3 x).1 (h3 x hx))
   simp at this;omega
instance {T:Type}:Inhabited (Mp T):=⟨Mp.empty⟩
def Mp.znm {T:Type} [Inhabited T] (f:T→Option T) (m:Mp T):Option (Mp T):=match m.keys.all (fun k=>(f ((m.get k).getD default)).isSome) with
 | true=>some ⟨fun k=>match m.get k with
  | some l=>f l
  | none=>none,m.card,m.keys⟩
 | false=>none
def Mp.mix {T:Type} (m y:Mp T) (left:List Int):Mp T:=⟨fun k=>if k∈left then m.get k else y.get k,m.card,m.keys⟩
def allU (f:Int→Option Unit):List Int→Option Unit
 | []=>some ()
 | k::l=>match f k with
  | some _=>allU f l
  | none=>none
def zdV {S:Type} (body:Int→S→(S→Option Unit)→Option Unit) (exit:S→Option Unit):Nat→List Int→S→Option Unit
 | 0,_,s=>exit s
 | n+1,left,s=>allU (fun k=>body k s (zdV body exit n (left.erase k))) left
theorem zlj {f:Int→Option Unit} {u:Unit}:∀ {l:List Int},allU f l=some u→∀ k,k∈l→f k=some ()
 | x::l,h,k,hk=>by
  unfold allU at h
  split at h
  · rename_i v hv
    rcases List.mem_cons.1 hk with rfl|hk
    · exact hv
    · exact zlj h k hk
  · cases h
theorem zmV {f:Int→Option Unit}:∀ {l:List Int},(∀ k,k∈l→f k=some ())→allU f l=some ()
 | [],_=>rfl
 | x::l,h=>by
  unfold allU
  rw [h x (List.mem_cons_self ..)]
  exact zmV (fun k hk=>h k (List.mem_cons_of_mem _ hk))
theorem zpD {f:Int→Option Unit} {l l':List Int} (h:l.Perm l'):allU f l=allU f l':=by
 have key:∀ {l l':List Int},l.Perm l'→allU f l=some ()→allU f l'=some ():=fun hp hl=>zmV (fun k hk=>zlj hl k (hp.mem_iff.2 hk))
 cases h1:allU f l with
 | some u=>exact (key h h1).symm
 | none=>
  cases h2:allU f l' with
  | none=>rfl
  | some u=>rw [key h.symm h2] at h1;cases h1
theorem zjl {S:Type} {body:Int→S→(S→Option Unit)→Option Unit} {exit:S→Option Unit}:∀ {n:Nat} {l l':List Int},l.Perm l'→zdV body exit n l=zdV body exit n l':=by
 intro n
 induction n with
 | zero=>intro l l' _;funext s;rfl
 | succ n ih=>
  intro l l' h
  funext s
  show allU _ l=allU _ l'
  rw [show (fun k=>body k s (zdV body exit n (l.erase k)))=(fun k=>body k s (zdV body exit n (l'.erase k))) from funext fun k=>by rw [ih (h.erase k)]]
  exact zpD h
theorem zmy {S:Type} {body:Int→S→(S→Option Unit)→Option Unit} {exit:S→Option Unit} {left left':List Int} {k:Int} {s:S} {r:Unit} (hp:left.Perm (k::left')) (H:zdV body exit left.length left s=some r):body k s (zdV body exit left'.length left')=some r:=by
 rw [zjl hp,hp.length_eq] at H
 have h1:=zlj (f:=fun j=>body j s (zdV body exit left'.length ((k::left').erase j))) H k (List.mem_cons_self ..)
 simp only [List.erase_cons_head] at h1
 exact h1
def isTrue (b:Bool):Option Unit:=match b with
 | true=>some ()
 | false=>none
theorem zlF {u:Unit}:∀ b,isTrue b=some u→b=true
 | true,_=>rfl
def zhZ (f:(Bool→Option Unit)→Option Unit):Option Bool:=match f isTrue with
 | some _=>some true
 | none=>none
theorem zj4 {f:(Bool→Option Unit)→Option Unit} {r:Bool} (H:zhZ f=some r):∃ u,f isTrue=some u∧r=true:=by
 unfold zhZ at H
 split at H
 · rename_i u hu;cases H;exact ⟨u,hu,rfl⟩
 · cases H
structure Arr1 (T:Type) where
 x0:T
 deriving Inhabited,DecidableEq
structure Arr2 (T:Type) where
 x0:T
 x1:T
 deriving Inhabited,DecidableEq
structure Arr3 (T:Type) where
 x0:T
 x1:T
 x2:T
 deriving Inhabited,DecidableEq
structure Arr4 (T:Type) where
 x0:T
 x1:T
 x2:T
 x3:T
 deriving Inhabited,DecidableEq
structure Arr5 (T:Type) where
 x0:T
 x1:T
 x2:T
 x3:T
 x4:T
 deriving Inhabited,DecidableEq
structure Arr6 (T:Type) where
 x0:T
 x1:T
 x2:T
 x3:T
 x4:T
 x5:T
 deriving Inhabited,DecidableEq
structure Arr7 (T:Type) where
 x0:T
 x1:T
 x2:T
 x3:T
 x4:T
 x5:T
 x6:T
 deriving Inhabited,DecidableEq
structure Arr8 (T:Type) where
 x0:T
 x1:T
 x2:T
 x3:T
 x4:T
 x5:T
 x6:T
 x7:T
 deriving Inhabited,DecidableEq
structure Arr9 (T:Type) where
 x0:T
 x1:T
 x2:T
 x3:T
 x4:T
 x5:T
 x6:T
 x7:T
 x8:T
 deriving Inhabited,DecidableEq
theorem zaa {R:Type} {c:Prop} [Decidable c] {x:Option R} {r:R} (H:must c x=some r):c∧x=some r:=by
 unfold must at H
 split at H
 · exact ⟨by assumption,H⟩
 · cases H
theorem zac {S R:Type} {x:Option S} {k:S→Option R} {r:R} (H:zam x k=some r):∃ y,x=some y∧k y=some r:=by
 unfold zam at H
 split at H
 · exact ⟨_,rfl,H⟩
 · cases H
theorem zbJ {R:Type} {b:Bool} {x y r:R} (H:(bif b then x else y)=r) (h:b=true):x=r:=by subst h;exact H
theorem zp1 {R:Type} {b:Bool} {x y r:R} (H:(bif b then x else y)=r) (h:b=false):y=r:=by subst h;exact H
end Go.Sp
end
/- Sorted, by putting in one after another: what the library's sort of integers yields. No program, no abstract value. -/
section
set_option linter.all false
namespace Go.Sp
open Go.Av
def znR (x:Int):List Int→List Int
 | []=>[x]
 | y::l=>bif decide (x≤y) then x::y::l else y::znR x l
def isort:List Int→List Int
 | []=>[]
 | x::l=>znR x (isort l)
theorem zh3 (x:Int):∀ l,(znR x l).Perm (x::l)
 | []=>.refl _
 | y::l=>by
  unfold znR
  cases decide (x≤y)
  · exact ((zh3 x l).cons y).trans (.swap x y l)
  · exact .refl _
theorem zfj:∀ l,(isort l).Perm l
 | []=>.refl _
 | x::l=>(zh3 x (isort l)).trans ((zfj l).cons x)
theorem ziw (x:Int):∀ l:List Int,l.Pairwise (· ≤ ·)→(znR x l).Pairwise (· ≤ ·)
 | [],_=>List.pairwise_singleton _ _
 | y::l,h=>by
  unfold znR
  rw [List.pairwise_cons] at h
  by_cases e:x≤y
  · rw [decide_eq_true e]
    refine List.pairwise_cons.2 ⟨fun z hz=>?_,List.pairwise_cons.2 h⟩
    rcases List.mem_cons.1 hz with rfl|hz
    · exact e
    · exact Int.le_trans e (h.1 z hz)
  · rw [decide_eq_false e]
    refine List.pairwise_cons.2 ⟨fun z hz=>?_,ziw x l h.2⟩
    rcases List.mem_cons.1 ((zh3 x l).mem_iff.1 hz) with rfl|hz
    · omega
    · exact h.1 z hz
theorem zga:∀ l,(isort l).Pairwise (· ≤ ·)
 | []=>.nil
 | x::l=>ziw x _ (zga l)
theorem zej (l:List Int):(isort l).length=l.length:=(zfj l).length_eq
theorem zkA:∀ {l m:List Int},l.Perm m→l.Pairwise (· ≤ ·)→m.Pairwise (· ≤ ·)→l=m:=by
 intro l m h
 exact fun h1 h2=>h.eq_of_pairwise (fun a b _ _ h3 h4=>Int.le_antisymm h3 h4) h1 h2
theorem zmx (l:List Int):l.mergeSort (fun x y=>decide (x≤y))=isort l:=by
 refine zkA ((List.mergeSort_perm l _).trans (zfj l).symm) ?_ (zga l)
 have:=List.pairwise_mergeSort (le:=fun x y:Int=>decide (x≤y)) (fun a b c h1 h2=>by simp at *;omega) (fun a b=>by simp;omega) l
 exact this.imp (fun h=>by simpa using h)
def zco (p0:List Int):Option (List Int):=must (p0.length<4611686018427387904) <| some (isort p0)
end Go.Sp
end
/- The evaluator of one operation over abstract values. It only reckons; that it is right is AvD's part. -/
section
set_option linter.all false
namespace Go.Av
inductive Ds where
 | int (k:IntKind)|bool|ptr (e:TypeId)|slice (e:TypeId)|struct (fs:List (Nat×TypeId))|array (n:Nat) (e:TypeId)|map (k e:TypeId)|func|iface|other
def Ds.agg:Ds→Bool
 | .struct _|.array _ _=>true
 | _=>false
structure TyD where
 d:Ds
 zero:List Value
 size:Nat
 bytes:Nat
abbrev Tys:=List (Nat×TyD)
def tyOf:Tys→Nat→Option TyD
 | [],_=>none
 | (k,v)::r,t=>match Nat.beq k t with
  | true=>some v
  | false=>tyOf r t
def TyD.zeroV (T:TyD):Value:=match T.d.agg with
 | true=>.agg T.zero.toArray
 | false=>T.zero.headD undef
def single:AV→Bool
 | .any|.agg _|.tup _|.cnd _ _|.raw _|.pin _ _=>false
 | .ns _ (.ro _ _ _)=>true
 | .ns _ _=>false
 | _=>true
def singles:List AV→Bool
 | []=>true
 | c::cs=>match single c with
  | true=>singles cs
  | false=>false
def zgl:AV→Option (List AV)
 | .agg cs=>match singles cs with
  | true=>some cs
  | false=>none
 | v=>match single v with
  | true=>some [v]
  | false=>none
def takeN:Nat→List AV→Option (List AV)
 | 0,_=>some []
 | n+1,x::xs=>match takeN n xs with
  | some r=>some (x::r)
  | none=>none
 | _+1,[]=>none
def zdJ:Nat→List AV→Option (List AV)
 | 0,xs=>some xs
 | n+1,_::xs=>zdJ n xs
 | _+1,[]=>none
def spine:List AV→Option (List AV)
 | []=>some []
 | x::xs=>match spine xs with
  | some r=>some (x::r)
  | none=>none
def layN:Nat→List AV→List AV→Option (List AV)
 | _,[],cs=>some cs
 | 0,x::xs,_::cs=>match layN 0 xs cs with
  | some r=>some (x::r)
  | none=>none
 | n+1,x::xs,c::cs=>match layN n (x::xs) cs with
  | some r=>some (c::r)
  | none=>none
 | _,_::_,[]=>none
def layE (off:Nat) (xs:List AV) (sz:Nat) (cs:List AV):Option (List AV):=match Nat.beq off 0 && Nat.beq xs.length sz with
 | true=>some xs
 | false=>layN off xs cs
theorem znr:∀ (xs cs:List AV),cs.length=xs.length→layN 0 xs cs=some xs
 | [],[],_=>rfl
 | x::xs,c::cs,h=>by simp only [layN];rw [znr xs cs (by simpa using h)]
theorem zoV {off:Nat} {xs:List AV} {sz:Nat} {cs es:List AV} (h:layE off xs sz cs=some es) (hl:cs.length=sz):layN off xs cs=some es:=by
 unfold layE at h
 split at h
 · rename_i hb
   simp only [Bool.and_eq_true] at hb
   have h0:=Nat.eq_of_beq_eq_true hb.1
   have h1:=Nat.eq_of_beq_eq_true hb.2
   subst h0
   rw [znr xs cs (by rw [hl,h1])];exact h
 · exact h
def nthN {α:Type}:Nat→List α→Option α
 | 0,x::_=>some x
 | n+1,_::xs=>nthN n xs
 | _,[]=>none
def zdy (T:TyD) (cs:List AV):Option AV:=match T.d.agg with
 | true=>match takeN T.size cs with
  | some xs=>some (.agg xs)
  | none=>none
 | false=>match cs with
  | x::_=>some x
  | []=>none
def zeros:List Value→List AV
 | []=>[]
 | v::vs=>ze3 v::zeros vs
def zjL (T:TyD):AV:=match T.d.agg with
 | true=>.agg (zeros T.zero)
 | false=>match T.zero with
  | v::_=>ze3 v
  | []=>.any
structure R where
 v:AV
 rd:List Nat
 wr:List (Nat×Blk)
 cs:Option Prop
 rq:Option (FuncId×List AV×List (Nat×Blk))
def R.val (v:AV):R:=⟨v,[],[],none,none⟩
def R.zcF (v:AV) (c:Prop):R:=⟨v,[],[],some c,none⟩
def andO:Option Prop→Option Prop→Option Prop
 | none,c=>c
 | some c,none=>some c
 | some c,some d=>some (c∧d)
def pin1 (hp:Hp) (c:AV):AV:=match c.gr with
 | true=>c
 | false=>.pin hp c
def pinL (hp:Hp):List AV→List AV
 | []=>[]
 | c::cs=>pin1 hp c::pinL hp cs
theorem zpZ {h hp:Hp} {ρ:Rho} {c:AV} {v:Value} (hl:Le hp h) (H:Rel hp ρ0 c v):Rel h ρ (pin1 hp c) v:=by
 unfold pin1
 split
 · exact H.zqY (by assumption)
 · exact .pin _ _ _ _ hl H
theorem znc {hp:Hp}:∀ {cs:List AV} {j:Nat} {x:AV},(pinL hp cs)[j]? = some x→∃ c,cs[j]? = some c∧x=pin1 hp c
 | [],j,x,h=>by simp [pinL] at h
 | c::cs,0,x,h=>by simp [pinL] at h;exact ⟨c,rfl,h.symm⟩
 | c::cs,j+1,x,h=>by simp only [pinL,List.getElem?_cons_succ] at h;simpa using znc h
def target (mg:Mm):AV→Option (List AV×List Nat×Option Prop)
 | .rp cs=>some (cs,[],none)
 | .pin hp (.rp cs)=>some (pinL hp cs,[],none)
 | .lp id off=>match mg id with
  | some (.cells cs)=>match zdJ off cs with
   | some r=>some (r,[id],none)
   | none=>none
  | _=>none
 | .ep id n i off=>match mg id with
  | some (.buf _ _ n' e)=>match zdJ off (e i) with
   | some r=>some (r,[id],some (n=n'∧i<n'))
   | none=>none
  | _=>none
 | .gp id n0 i=>match mg id with
  | some (.grid _ _ _ n m _)=>some ([.gr' id i (m i)],[id],some (n0=n∧i<n))
  | _=>none
 | .ge id i k j off=>match mg id with
  | some (.grid _ _ _ n m e)=>match zdJ off (e i j) with
   | some r=>some (r,[id],some (k=m i∧i<n∧j<m i))
   | none=>none
  | _=>none
 | _=>none
def zjb (off:Nat):AV→Option AV
 | .rp cs=>match zdJ off cs with
  | some r=>some (.rp r)
  | none=>none
 | .pin hp (.rp cs)=>match zdJ off cs with
  | some r=>some (.pin hp (.rp r))
  | none=>none
 | .lp id o=>some (.lp id (o+off))
 | .ep id n i o=>some (.ep id n i (o+off))
 | .ge id i k j o=>some (.ge id i k j (o+off))
 | _=>none
def asRo (mg:Mm):AV→Option (Nat×Nat×(Nat→List AV)×List Nat×Option Prop)
 | .ro sz n e=>some (sz,n,e,[],none)
 | .buf id n=>match mg id with
  | some (.buf _ sz n' e)=>some (sz,n',e,[id],some (n=n'))
  | _=>none
 | .sb id n a b=>match mg id with
  | some (.buf _ sz n' e)=>some (sz,b - a,fun k=>e (a+k),[id],some (n=n'∧a≤b∧b≤n'))
  | _=>none
 | _=>none
def zpI (mg:Mm):AV→Option (AV×List Nat×Option Prop)
 | .buf id n=>match mg id with
  | some (.buf _ sz n' e)=>some (.ro sz n' e,[id],some (n=n'))
  | _=>none
 | .mp id=>match mg id with
  | some (.map z dom e n)=>some (.rom z dom e n,[id],none)
  | _=>none
 | v=>match v.cl with
  | true=>some (v,[],none)
  | false=>none
def zjY (mg:Mm):List AV→Option (List AV×List Nat×Option Prop)
 | []=>some ([],[],none)
 | c::cs=>match zpI mg c with
  | some (c',rd,p)=>match zjY mg cs with
   | some (cs',rd',p')=>some (c'::cs',rd++rd',andO p p')
   | none=>none
  | none=>none
mutual
/-- What a call is handed: owned slices and cells as they lie. -/
def view (mg:Mm):AV→Option (AV×List Nat×Option Prop)
 | .buf id n=>match mg id with
  | some (.buf _ sz n' e)=>some (.ro sz n' e,[id],some (n=n'))
  | _=>none
 | .lp id off=>match mg id with
  | some (.cells cs)=>match zdJ off cs with
   | some r=>match zjY mg r with
    | some (r',rd,c)=>some (.rp r',id::rd,c)
    | none=>none
   | none=>none
  | _=>none
 | .mp id=>match mg id with
  | some (.map z dom e n)=>some (.rom z dom e n,[id],none)
  | _=>none
 | .ep _ _ _ _|.gp _ _ _|.gr' _ _ _|.ge _ _ _ _ _=>none
 | .sb id n a b=>match mg id with
  | some (.buf _ sz n' e)=>some (.ro sz (b - a) (fun k=>e (a+k)),[id],some (n=n'∧a≤b∧b≤n'))
  | _=>none
 | .gb id n=>match mg id with
  | some (.grid _ _ sz n' m e)=>some (.ro 1 n' (fun i=>[.ro sz (m i) (e i)]),[id],some (n=n'))
  | _=>none
 | .agg cs=>match zgQ mg cs with
  | some (cs',rd,c)=>some (.agg cs',rd,c)
  | none=>none
 | .tup cs=>match zgQ mg cs with
  | some (cs',rd,c)=>some (.tup cs',rd,c)
  | none=>none
 | .fn f fs cs=>match zgQ mg fs with
  | some (fs',rd,c)=>match zgQ mg cs with
   | some (cs',rd',c')=>some (.clo f fs' cs',rd++rd',andO c c')
   | none=>none
  | none=>none
 | .ifc t v=>match view mg v with
  | some (v',rd,c)=>some (.ifc t v',rd,c)
  | none=>none
 | .cnd _ _=>none
 | .ns b v=>match v.cl with
  | true=>some (.ns b v,[],none)
  | false=>none
 | v=>some (v,[],none)
def zgQ (mg:Mm):List AV→Option (List AV×List Nat×Option Prop)
 | []=>some ([],[],none)
 | c::cs=>match view mg c with
  | some (c',rd,p)=>match zgQ mg cs with
   | some (cs',rd',p')=>some (c'::cs',rd++rd',andO p p')
   | none=>none
  | none=>none
/-- Are cells closed? -/
def zlo:List AV→Bool
 | []=>true
 | c::cs=>match c.cl with
  | true=>zlo cs
  | false=>false
end
def cutN (off n:Nat) (cs:List AV):Option (List AV):=match zdJ off cs with
 | some r=>takeN n r
 | none=>none
def eqFs (Γ:Tys) (eq:TypeId→List AV→List AV→Option Bool):List (Nat×TypeId)→List AV→List AV→Option Bool
 | [],_,_=>some true
 | (off,ft)::fs,xs,ys=>match tyOf Γ ft with
  | some FT=>match cutN off FT.size xs,cutN off FT.size ys with
   | some a,some b=>match eq ft a b with
    | some p=>match fs with
     | []=>some p
     | _::_=>match eqFs Γ eq fs xs ys with
      | some q=>some (p && q)
      | none=>none
    | none=>none
   | _,_=>none
  | none=>none
def eqTy (Γ:Tys):Nat→TypeId→List AV→List AV→Option Bool
 | 0,_,_,_=>none
 | fuel+1,t,xs,ys=>match tyOf Γ t with
  | some T=>match T.d with
   | .int .i64=>match xs,ys with
    | .int .i64 a::_,.int .i64 b::_=>some (decide (a=b))
    | _,_=>none
   | .bool=>match xs,ys with
    | .bool a::_,.bool b::_=>some (a == b)
    | _,_=>none
   | .struct fs=>eqFs Γ (eqTy Γ fuel) fs xs ys
   | _=>none
  | none=>none
def cmpI:BinOp→Int→Int→Option Bool
 | .eql,a,b=>some (decide (a=b))
 | .neq,a,b=>some (!decide (a=b))
 | .lss,a,b=>some (decide (a<b))
 | .leq,a,b=>some (decide (a≤b))
 | .gtr,a,b=>some (decide (b<a))
 | .geq,a,b=>some (decide (b≤a))
 | _,_,_=>none
def binI (op:BinOp) (a b:Int):Option R:=match op with
 | .add=>some (.zcF (.int .i64 (a+b)) (inI (a+b)))
 | .sub=>some (.zcF (.int .i64 (a - b)) (inI (a - b)))
 | .mul=>some (.zcF (.int .i64 (a * b)) (inI (a * b)))
 | .quo=>some (.zcF (.int .i64 (a.tdiv b)) (b≠0∧inI (a.tdiv b)))
 | .rem=>some (.zcF (.int .i64 (a.tmod b)) (b≠0))
 | .shl=>some (.zcF (.int .i64 (a * 2 ^ b.toNat)) (0≤b∧b<64∧inI (a * 2 ^ b.toNat)))
 | .shr=>some (.zcF (.int .i64 (a.fdiv (2 ^ b.toNat))) (0≤b∧b<64))
 | .and=>some (.zcF (.int .i64 ((a.toNat &&& b.toNat:Nat):Int)) (0≤a∧0≤b∧inI a∧inI b))
 | .or=>some (.zcF (.int .i64 ((a.toNat ||| b.toNat:Nat):Int)) (0≤a∧0≤b∧inI a∧inI b))
 | op=>match cmpI op a b with
  | some c=>some (.val (.bool c))
  | none=>none
def binU (op:BinOp) (a b:Int):Option R:=match op with
 | .add=>some (.zcF (.int .u64 (a+b)) (inU (a+b)))
 | .mul=>some (.zcF (.int .u64 (a * b)) (inU (a * b)))
 | .shr=>some (.zcF (.int .u64 (a.fdiv (2 ^ b.toNat))) (0≤b∧b<64))
 | .and=>some (.zcF (.int .u64 ((a.toNat &&& b.toNat:Nat):Int)) (inU a∧inU b))
 | op=>match cmpI op a b with
  | some c=>some (.val (.bool c))
  | none=>none
def zra (Γ:Tys) (op:BinOp) (t:TypeId) (x y:AV):Option R:=match x,y with
 | .int .i64 a,.int .i64 b=>binI op a b
 | .int .u64 a,.int .u64 b=>binU op a b
 | .bool a,.bool b=>match op with
  | .eql=>match tyOf Γ t with
   | some T=>match T.d with
    | .bool=>some (.val (.bool (a == b)))
    | _=>none
   | none=>none
  | .neq=>match tyOf Γ t with
   | some T=>match T.d with
    | .bool=>some (.val (.bool (!(a == b))))
    | _=>none
   | none=>none
  | _=>none
 | .agg xs,.agg ys=>match tyOf Γ t with
  | some T=>match T.d.agg with
   | true=>match op with
    | .eql=>match eqTy Γ 8 t xs ys with
     | some c=>some (.val (.bool c))
     | none=>none
    | .neq=>match eqTy Γ 8 t xs ys with
     | some c=>some (.val (.bool (!c)))
     | none=>none
    | _=>none
   | false=>none
  | none=>none
 | .ro _ n _,.nilS=>match op with
  | .eql=>match tyOf Γ t with
   | some T=>match T.d with
    | .slice _=>some (.val (.nz n))
    | _=>none
   | none=>none
  | _=>none
 | .ns b (.ro _ _ _),.nilS=>match op with
  | .eql=>match tyOf Γ t with
   | some T=>match T.d with
    | .slice _=>some (.val (.bool b))
    | _=>none
   | none=>none
  | _=>none
 | _,_=>none
def zbf:List Nat→Nat→Bool
 | [],_=>false
 | k::r,t=>match Nat.beq k t with
  | true=>true
  | false=>zbf r t
def isWrap (own:List Nat) (o:Oper):Bool:=match o.dst with
 | some d=>zbf own (50331648+d)
 | none=>false
def zqI (op:BinOp) (x y:AV):Option R:=match x,y with
 | .int .i64 a,.int .i64 b=>match op with
  | .add=>some (.val (.int .i64 (zku (a+b))))
  | .sub=>some (.val (.int .i64 (zku (a - b))))
  | .mul=>some (.val (.int .i64 (zku (a * b))))
  | .and=>some (.val (.int .i64 (andI a b)))
  | _=>none
 | _,_=>none
def zcA (zs:List AV) (place:Nat→Option (Nat×Nat)):List (Nat×AV)→Option (List AV)
 | []=>some zs
 | (i,v)::ps=>match place i with
  | some (off,sz)=>match zgl v with
   | some []=>none
   | some (x::xs)=>match Nat.beq (x::xs).length sz with
    | true=>match layN off (x::xs) zs with
     | some zs'=>zcA zs' place ps
     | none=>none
    | false=>none
   | none=>none
  | none=>none
def zeE (val:Operand→AV):List (Nat×Operand)→List (Nat×AV)
 | []=>[]
 | (i,x)::r=>(i,val x)::zeE val r
def repL (zs:List AV):Nat→List AV
 | 0=>[]
 | n+1=>zs++repL zs n
def elemAt (sz:Nat) (cs:List AV) (i:Nat):List AV:=(cs.drop (i * sz)).take sz
def zfC (val:Operand→AV):List Operand→List AV
 | []=>[]
 | x::r=>val x::zfC val r
def fresh (mg:Mm) (o:Oper):Option Nat:=match o.dst with
 | some d=>match mg d with
  | none=>some d
  | some _=>none
 | none=>none
def znC (Γ:Tys) (mg:Mm) (o:Oper) (t:TypeId) (s x:AV):Option R:=match tyOf Γ t with
 | some T=>match T.d with
  | .slice e=>match tyOf Γ e with
   | some E=>match asRo mg x with
    | some (sz2,n2,e2,rd,c)=>match Nat.beq sz2 E.size with
     | true=>match E.size with
      | 0=>none
      | _+1=>match s with
       | .nilS=>match fresh mg o with
        | some d=>some ⟨.buf d n2,d::rd,[(d,.buf e E.size n2 e2)],andO (some (room n2 E.bytes)) c,none⟩
        | none=>none
       | .buf id n=>match mg id with
        | some (.buf ty sz n' e1)=>match Nat.beq ty e with
         | true=>match Nat.beq sz E.size with
          | true=>some ⟨.buf id (n'+n2),id::rd,[(id,.buf ty sz (n'+n2) (fun k=>if k<n' then e1 k else e2 (k - n')))],andO (some (n=n'∧room (n'+n2) E.bytes)) c,none⟩
          | false=>none
         | false=>none
        | _=>none
       | _=>none
     | false=>none
    | none=>none
   | none=>none
  | _=>none
 | none=>none
def zjA (Γ:Tys) (mg:Mm) (o:Oper) (t:TypeId) (id n b id2 n2 j k:Nat):Option R:=match tyOf Γ t with
 | some T=>match T.d with
  | .slice e=>match tyOf Γ e with
   | some E=>match mg id with
    | some (.buf ty sz n' e1)=>match Nat.beq ty e && Nat.beq sz E.size && Nat.beq id id2 with
     | true=>match fresh mg o with
      | some d=>some ⟨.buf d (b+(k - j)),[id,d],[(d,.bufk ty sz (b+(k - j)) n' (fun q=>if q<b then e1 q else e1 (j+(q - b)))),(id,.dead)],some (n=n'∧n2=n'∧b≤j∧j≤k∧k≤n'),none⟩
      | none=>none
     | false=>none
    | _=>none
   | none=>none
  | _=>none
 | none=>none
def zmP (Γ:Tys) (mg:Mm) (t:TypeId) (x:AV):Option R:=match tyOf Γ t with
 | some T=>match T.d with
  | .slice e=>match tyOf Γ e with
   | some E=>match x with
    | .sb id n a b=>match mg id with
     | some (.bufk ty sz n' c e1)=>match Nat.beq ty e && Nat.beq sz E.size with
      | true=>some ⟨.any,[id],[(id,.bufk ty sz n' c e1)],some (n=n'∧a=n'∧b≤c),none⟩
      | false=>none
     | some (.buf ty sz n' e1)=>match Nat.beq ty e && Nat.beq sz E.size with
      | true=>some ⟨.any,[id],[(id,.buf ty sz n' (fun q=>if a≤q∧q<b then zeros E.zero else e1 q))],some (n=n'∧a≤b∧b≤n'),none⟩
      | false=>none
     | _=>none
    | _=>none
   | none=>none
  | _=>none
 | none=>none
def zpk (Γ:Tys) (mg:Mm) (t:TypeId) (x y:AV):Option R:=match tyOf Γ t with
 | some T=>match T.d with
  | .slice e=>match tyOf Γ e with
   | some E=>match Nat.beq 1 E.size with
    | true=>match x,y with
     | .buf id n,.ro sz2 n2 e2=>match mg id with
      | some (.buf ty sz n' e1)=>match Nat.beq ty e && Nat.beq sz 1 && Nat.beq sz2 1 with
       | true=>some ⟨.int .i64 ((min n2 n':Nat):Int),[id],[(id,.buf ty sz n' (fun q=>if q<min n2 n' then e2 q else e1 q))],some (n=n'),none⟩
       | false=>none
      | _=>none
     | .sb id n a b,.sb id2 n2 a2 b2=>match mg id with
      | some (.buf ty sz n' e1)=>match Nat.beq ty e && Nat.beq sz 1 && Nat.beq id id2 with
       | true=>some ⟨.int .i64 ((min (b2 - a2) (b - a):Nat):Int),[id],[(id,.buf ty sz n' (fun q=>if a≤q∧q<a+min (b2 - a2) (b - a) then e1 (a2+(q - a)) else e1 q))],some (n=n'∧n2=n'∧a≤b∧b≤n'∧a2≤b2∧b2≤n'),none⟩
       | false=>none
      | _=>none
     | _,_=>none
    | false=>none
   | none=>none
  | _=>none
 | none=>none
def zk4 (Γ:Tys) (mg:Mm) (t:TypeId) (m k:AV) (ok:Bool):Option R:=match tyOf Γ t with
 | some T=>match T.d with
  | .map kt et=>match tyOf Γ kt with
   | some KT=>match KT.d with
    | .int .i64=>match tyOf Γ et with
     | some E=>match k with
      | .int .i64 q=>match m with
       | .mp id=>match mg id with
        | some (.map z dom e _)=>match ok with
         | true=>some ⟨.tup [e q,.bool (dom q)],[id],[],some (z=E.zeroV),none⟩
         | false=>some ⟨e q,[id],[],some (z=E.zeroV),none⟩
        | some (.gmap _ _ _ _ _ _ (some (k0,a0)))=>match ok with
         | true=>none
         | false=>some ⟨a0,[id],[],some (q=k0∧E.zeroV = .slice none 0 0),none⟩
        | _=>none
       | .pin hp (.rom z _ e _)=>match ok with
        | true=>none
        | false=>some (.zcF (.pin hp (e q)) (z=E.zeroV))
       | .rom z dom e _=>match ok with
        | true=>some (.zcF (.tup [e q,.bool (dom q)]) (z=E.zeroV))
        | false=>some (.zcF (e q) (z=E.zeroV))
       | .nilMap=>match ok with
        | true=>some (.val (.tup [zjL E,.bool false]))
        | false=>some (.val (zjL E))
       | _=>none
      | _=>none
     | none=>none
    | _=>none
   | none=>none
  | _=>none
 | none=>none
def zk3 (Γ:Tys) (mg:Mm) (t:TypeId) (m k x:AV):Option R:=match tyOf Γ t with
 | some T=>match T.d with
  | .map kt _=>match tyOf Γ kt with
   | some KT=>match KT.d with
    | .int .i64=>match k with
     | .int .i64 q=>match m with
      | .mp id=>match mg id with
       | some (.map z dom e n)=>match x.cl with
        | true=>some ⟨.any,[id],[(id,.map z (fun j=>decide (j=q) || dom j) (fun j=>bif decide (j=q) then x else e j) (bif dom q then n else n+1))],none,none⟩
        | false=>none
       | some (.gmap ty sz n dom m e (some (k0,_)))=>some ⟨.any,[id],[(id,.gmap ty sz (bif dom k0 then n else n+1) (fun j=>decide (j=k0) || dom j) m e (some (k0,x)))],some (q=k0),none⟩
       | _=>none
      | _=>none
     | _=>none
    | _=>none
   | none=>none
  | _=>none
 | none=>none
def maxes:Int→List AV→Option Int
 | a,[]=>some a
 | a,.int .i64 b::r=>maxes (max a b) r
 | _,_::_=>none
def mines:Int→List AV→Option Int
 | a,[]=>some a
 | a,.int .i64 b::r=>mines (min a b) r
 | _,_::_=>none
def zpj (mg:Mm):AV→Option R
 | .nilS=>some (.val (.int .i64 0))
 | .ro _ n _=>some (.val (.int .i64 (n:Int)))
 | .pin _ (.ro _ n _)=>some (.val (.int .i64 (n:Int)))
 | .buf id n=>match mg id with
  | some (.buf _ _ n' _)=>some ⟨.int .i64 (n':Int),[id],[],some (n=n'),none⟩
  | some (.bufk _ _ n' _ _)=>some ⟨.int .i64 (n':Int),[id],[],some (n=n'),none⟩
  | _=>none
 | .sb id n a b=>match mg id with
  | some (.buf _ _ n' _)=>some ⟨.int .i64 ((b - a:Nat):Int),[id],[],some (n=n'),none⟩
  | _=>none
 | .nilMap=>some (.val (.int .i64 0))
 | .rom _ _ _ n=>some (.val (.int .i64 (n:Int)))
 | .mp id=>match mg id with
  | some (.map _ _ _ n)=>some ⟨.int .i64 (n:Int),[id],[],none,none⟩
  | _=>none
 | .gb id n=>match mg id with
  | some (.grid _ _ _ n' _ _)=>some ⟨.int .i64 (n':Int),[id],[],some (n=n'),none⟩
  | _=>none
 | .gr' id i k=>match mg id with
  | some (.grid _ _ _ n m _)=>some ⟨.int .i64 ((m i:Nat):Int),[id],[],some (k=m i∧i<n),none⟩
  | _=>none
 | _=>none
def zjz (Γ:Tys) (mg:Mm) (o:Oper) (t tn:TypeId) (s x:AV):Option R:=match tyOf Γ t with
 | some T=>match T.d with
  | .slice e=>match tyOf Γ e with
   | some E=>match E.size with
    | 0=>none
    | _+1=>match tyOf Γ tn with
     | some TN=>match TN.d with
      | .int .i64=>match s,x with
       | .nilS,.int .i64 n=>match fresh mg o with
        | some d=>some ⟨.buf d n.toNat,[d],[(d,.buf e E.size n.toNat (fun _=>zeros E.zero))],some (0<n∧room n.toNat E.bytes),none⟩
        | none=>none
       | _,_=>none
      | _=>none
     | none=>none
   | none=>none
  | _=>none
 | none=>none
def isSlMap:Ds→Bool
 | .slice _|.map _ _=>true
 | _=>false
def zeJ (Γ:Tys) (mg:Mm) (o:Oper) (b:Builtin) (ts:List TypeId) (xs:List AV):Option R:=match b,ts,xs with
 | .len,t::_,[x]=>match tyOf Γ t with
  | some T=>match T.d with
   | .slice _=>match x with
    | .nilMap|.rom _ _ _ _|.mp _=>none
    | x=>zpj mg x
   | .map _ _=>match x with
    | .nilS|.ro _ _ _|.buf _ _|.gb _ _|.gr' _ _ _|.sb _ _ _ _|.pin _ _=>none
    | x=>zpj mg x
   | _=>none
  | none=>none
 | .clear,t::_,[x]=>zmP Γ mg t x
 | .cap,t::_,[.nilS]=>match tyOf Γ t with
  | some T=>match T.d with
   | .slice _=>some (.val (.int .i64 0))
   | _=>none
  | none=>none
 | .copy,[t,_],[x,y]=>zpk Γ mg t x y
 | .append,[t,t'],[s,x]=>match Nat.beq t t' with
  | true=>match s,x with
   | .sb id n 0 b,.sb id2 n2 j k=>zjA Γ mg o t id n b id2 n2 j k
   | s,x=>znC Γ mg o t s x
  | false=>zjz Γ mg o t t' s x
 | .max,_,.int .i64 a::r=>match maxes a r with
  | some m=>some (.val (.int .i64 m))
  | none=>none
 | .min,_,.int .i64 a::r=>match mines a r with
  | some m=>some (.val (.int .i64 m))
  | none=>none
 | _,_,_=>none
mutual
/-- Names a value only such blocks? -/
def zas (ids:List Nat):AV→Bool
 | .lp id _|.buf id _|.ep id _ _ _|.mp id|.gb id _|.gp id _ _|.gr' id _ _|.ge id _ _ _ _|.sb id _ _ _=>zbf ids id
 | .agg cs|.tup cs=>zdh ids cs
 | .fn _ fs cs=>match zdh ids fs with
  | true=>zdh ids cs
  | false=>false
 | .ifc _ v|.cnd _ v|.ns _ v=>zas ids v
 | _=>true
def zdh (ids:List Nat):List AV→Bool
 | []=>true
 | c::cs=>match zas ids c with
  | true=>zdh ids cs
  | false=>false
end
def onlyO (ids:List Nat):Option (Int×AV)→Bool
 | some (_,a)=>zas ids a
 | none=>true
def zeB (ids:List Nat):Blk→Bool
 | .cells cs=>zdh ids cs
 | .gmap _ _ _ _ _ _ out=>onlyO ids out
 | .rows _ _ _ _ _ _ out=>onlyO ids out
 | _=>true
def zcZ (ids:List Nat):List (Nat×Blk)→Bool
 | []=>true
 | (_,b)::r=>match zeB ids b with
  | true=>zcZ ids r
  | false=>false
mutual
/-- Names of blocks, moved on. -/
def AV.sh (k:Nat):AV→AV
 | .lp id off=>.lp (k+id) off
 | .buf id n=>.buf (k+id) n
 | .ep id n i off=>.ep (k+id) n i off
 | .mp id=>.mp (k+id)
 | .gb id n=>.gb (k+id) n
 | .gp id n i=>.gp (k+id) n i
 | .gr' id i m=>.gr' (k+id) i m
 | .ge id i m j off=>.ge (k+id) i m j off
 | .sb id n a b=>.sb (k+id) n a b
 | .agg cs=>.agg (shL k cs)
 | .tup cs=>.tup (shL k cs)
 | .fn f fs cs=>.fn f (shL k fs) (shL k cs)
 | .ifc t v=>.ifc t (v.sh k)
 | .cnd g v=>.cnd g (v.sh k)
 | .ns b v=>.ns b (v.sh k)
 | v=>v
def shL (k:Nat):List AV→List AV
 | []=>[]
 | c::cs=>c.sh k::shL k cs
end
def Blk.sh (k:Nat):Blk→Blk
 | .cells cs=>.cells (shL k cs)
 | .gmap ty sz n dom m e out=>.gmap ty sz n dom m e (mapO (fun a=>a.sh k) out)
 | .rows ty sz hd dom m e out=>.rows ty sz hd dom m e (mapO (fun a=>a.sh k) out)
 | b=>b
def shB (k:Nat):List (Nat×Blk)→List (Nat×Blk)
 | []=>[]
 | (i,b)::r=>(k+i,b.sh k)::shB k r
def zaz:List (Nat×Blk)→List Nat
 | []=>[]
 | (i,_)::r=>i::zaz r
def zf5:List Nat→Bool
 | []=>true
 | i::r=>match zbf r i with
  | true=>false
  | false=>zf5 r
def zgF (mg:Mm):List Nat→Bool
 | []=>true
 | i::r=>match mg i with
  | none=>zgF mg r
  | some _=>false
mutual
/-- A value, laid out. -/
def zev {β:Type}:AV→(AV→β)→β
 | .agg cs,f=>zeu cs fun cs=>f (.agg cs)
 | .tup cs,f=>zeu cs fun cs=>f (.tup cs)
 | .rp cs,f=>zeu cs fun cs=>f (.rp cs)
 | .fn k fs cs,f=>zeu fs fun fs=>zeu cs fun cs=>f (.fn k fs cs)
 | .ifc t v,f=>zev v fun v=>f (.ifc t v)
 | .cnd g v,f=>zev v fun v=>f (.cnd g v)
 | .ns b v,f=>zev v fun v=>f (.ns b v)
 | .any,f=>f .any
 | .one,f=>f .one
 | .nilS,f=>f .nilS
 | .nilFn,f=>f .nilFn
 | .nilPtr,f=>f .nilPtr
 | .nilMap,f=>f .nilMap
 | .nilIfc,f=>f .nilIfc
 | .bool b,f=>f (.bool b)
 | .int k n,f=>f (.int k n)
 | .ro sz n e,f=>f (.ro sz n e)
 | .lp id off,f=>f (.lp id off)
 | .buf id n,f=>f (.buf id n)
 | .ep id n i off,f=>f (.ep id n i off)
 | .clo k fs cs,f=>f (.clo k fs cs)
 | .mp id,f=>f (.mp id)
 | .rom z dom e n,f=>f (.rom z dom e n)
 | .raw v,f=>f (.raw v)
 | .pin hp v,f=>f (.pin hp v)
 | .nz n,f=>f (.nz n)
 | .po b cs,f=>zeu cs fun cs=>f (.po b cs)
 | .gb id n,f=>f (.gb id n)
 | .gp id n i,f=>f (.gp id n i)
 | .gr' id i m,f=>f (.gr' id i m)
 | .ge id i m j off,f=>f (.ge id i m j off)
 | .sb id n a b,f=>f (.sb id n a b)
def zeu {β:Type}:List AV→(List AV→β)→β
 | [],f=>f []
 | x::r,f=>zev x fun x=>zeu r fun r=>f (x::r)
end
mutual
theorem zge {β:Type}:∀ (v:AV) (f:AV→β),zev v f=f v
 | .agg cs,f=>by simp only [zev,zdp]
 | .tup cs,f=>by simp only [zev,zdp]
 | .rp cs,f=>by simp only [zev,zdp]
 | .po b cs,f=>by simp only [zev,zdp]
 | .fn k fs cs,f=>by simp only [zev,zdp]
 | .ifc t v,f=>by simp only [zev,zge v]
 | .cnd g v,f=>by simp only [zev,zge v]
 | .ns b v,f=>by simp only [zev,zge v]
 | .any,f|.one,f|.nilS,f|.nilFn,f|.nilPtr,f|.nilMap,f|.nilIfc,f|.bool _,f|.int _ _,f|.ro _ _ _,f|.lp _ _,f|.buf _ _,f|.ep _ _ _ _,f|.clo _ _ _,f|.mp _,f|.rom _ _ _ _,f|.raw _,f|.pin _ _,f|.nz _,f|.gb _ _,f|.gp _ _ _,f|.gr' _ _ _,f|.ge _ _ _ _ _,f|.sb _ _ _ _,f=>by simp only [zev]
theorem zdp {β:Type}:∀ (cs:List AV) (f:List AV→β),zeu cs f=f cs
 | [],f=>by simp only [zeu]
 | x::r,f=>by simp only [zeu,zge x,zdp r]
end
structure RV where
 v:AV
 B:List (Nat×Blk)
 k:Nat
 K:List Nat
def zmL (mg:Mm) (f:FuncId) (args:List AV) (rd:List Nat) (c:Option Prop) (rv:RV):Option R:=match rd with
 | []=>match zas (zaz rv.B) rv.v with
  | true=>match zcZ (zaz rv.B) rv.B with
   | true=>match zf5 (zaz rv.B) with
    | true=>match zgF mg (zaz (shB rv.k rv.B)) with
     | true=>some ⟨rv.v.sh rv.k,zaz (shB rv.k rv.B),shB rv.k rv.B,c,some (f,args,[])⟩
     | false=>none
    | false=>none
   | false=>none
  | false=>none
 | _::_=>match rv.v.gr with
  | true=>match rv.B with
   | []=>some ⟨rv.v,rd,[],c,some (f,args,[])⟩
   | _::_=>none
  | false=>none
def zph (mg:Mm) (f:FuncId) (args:List AV) (id:Nat) (v:AV) (B:List (Nat×Blk)) (k:Nat):Option R:=match mg id with
 | some (.buf ty sz n e)=>match zdh [id] args with
  | true=>match zas (zaz B) v with
   | true=>match zcZ (zaz B) B with
    | true=>match zf5 (zaz B) with
     | true=>match zgF mg (zaz (shB k B)) with
      | true=>some ⟨v.sh k,id::zaz (shB k B),(id,.dead)::shB k B,none,some (f,args,[(id,.buf ty sz n e)])⟩
      | false=>none
     | false=>none
    | false=>none
   | false=>none
  | false=>none
 | _=>none
def takes:List (Nat×Blk)→Option Nat
 | (id,.dead)::_=>some id
 | _=>none
def handed (mg:Mm):List Nat→Option (List (Nat×Blk))
 | []=>some []
 | i::r=>match mg i with
  | some b=>match handed mg r with
   | some l=>some ((i,b)::l)
   | none=>none
  | none=>none
def zoe (ids:List Nat):List Nat→Bool
 | []=>true
 | i::r=>match zbf ids i with
  | true=>zoe ids r
  | false=>false
def zie (K:List Nat) (mg:Mm):List Nat→Bool
 | []=>true
 | i::r=>match zbf K i with
  | true=>zie K mg r
  | false=>match mg i with
   | none=>zie K mg r
   | some _=>false
def zpi (mg:Mm) (f:FuncId) (args:List AV) (v:AV) (B:List (Nat×Blk)) (K:List Nat):Option R:=match handed mg K with
 | some A=>match zdh K args with
  | true=>match zcZ K A with
   | true=>match zas (zaz B) v with
    | true=>match zcZ (zaz B) B with
     | true=>match zf5 (zaz B) with
      | true=>match zoe (zaz B) K with
       | true=>match zie K mg (zaz B) with
        | true=>some ⟨v,zaz B,B,none,some (f,args,A)⟩
        | false=>none
       | false=>none
      | false=>none
     | false=>none
    | false=>none
   | false=>none
  | false=>none
 | none=>none
def hidden:List Nat→Bool
 | i::_=>Nat.ble 100000000 i
 | []=>false
def zlT (K:List Nat):List AV→List AV
 | []=>[]
 | c::cs=>(match c with
  | .buf id n=>match zbf K (100000000+id) with
   | true=>.one
   | false=>.buf id n
  | c=>c)::zlT K cs
def zqb (K:List Nat):List AV→List AV
 | []=>[]
 | c::cs=>(match c with
  | .agg xs=>.agg (zlT K xs)
  | c=>c)::zqb K cs
def zpl (mg:Mm) (f:FuncId) (args:List AV) (rv:Option RV):Option R:=match rv with
 | some rv=>match takes rv.B with
  | some id=>zeu args fun args=>zph mg f args id rv.v rv.B.tail rv.k
  | none=>match rv.K with
   | []=>match zgQ mg args with
    | some (args',rd,c)=>zeu args' fun args'=>zmL mg f args' rd c rv
    | none=>none
   | i::K=>match hidden (i::K) with
    | true=>match zgQ mg (zqb (i::K) args) with
     | some (args',rd,c)=>zeu args' fun args'=>zmL mg f args' rd c rv
     | none=>none
    | false=>zeu args fun args=>zpi mg f args rv.v rv.B (i::K)
 | none=>none
def zq9 (mg:Mm) (f:FuncId) (fs args cs:List AV) (rv:Option RV):Option R:=match rv with
 | some rv=>match takes rv.B with
  | some _=>none
  | none=>match zgQ mg args with
   | some (args',rd,c)=>zeu args' fun args'=>zmL mg f (fs++(args'++cs)) rd c rv
   | none=>none
 | none=>none
def zqJ (c x y:AV):Option R:=match c with
 | .bool p=>match x,y with
  | .bool a,.bool b=>some (.val (.bool (bif p then a else b)))
  | .int .i64 a,.int .i64 b=>some (.val (.int .i64 (bif p then a else b)))
  | _,_=>none
 | _=>none
def zjy (Γ:Tys) (mg:Mm) (t:TypeId) (x i:AV):Option R:=match tyOf Γ t with
 | some T=>match i with
  | .int .i64 q=>match T.d with
   | .slice e=>match tyOf Γ e with
    | some E=>match x with
     | .ro sz n el=>match Nat.beq sz E.size with
      | true=>match spine (el q.toNat) with
       | some cs=>some (.zcF (.rp cs) (0≤q∧q<(n:Int)))
       | none=>none
      | false=>none
     | .buf id n=>match mg id with
      | some (.buf _ sz n' _)=>match Nat.beq sz E.size with
       | true=>some ⟨.ep id n' q.toNat 0,[id],[],some (n=n'∧0≤q∧q<(n':Int)),none⟩
       | false=>none
      | _=>none
     | .sb id n a b=>match mg id with
      | some (.buf _ sz n' _)=>match Nat.beq sz E.size with
       | true=>some ⟨.ep id n' (a+q.toNat) 0,[id],[],some (n=n'∧a≤b∧b≤n'∧0≤q∧q<((b - a:Nat):Int)),none⟩
       | false=>none
      | _=>none
     | _=>none
    | none=>none
   | .array n e=>match tyOf Γ e with
    | some E=>match zjb (q.toNat * E.size) x with
     | some p=>some (.zcF p (0≤q∧q<(n:Int)))
     | none=>none
    | none=>none
   | _=>none
  | _=>none
 | none=>none
def zmK (Γ:Tys) (t:TypeId) (x:AV) (lo hi:Option AV):Option R:=match tyOf Γ t with
 | some T=>match T.d with
  | .slice e=>match tyOf Γ e with
   | some E=>match x with
    | .nilS=>match lo,hi with
     | none,some (.int .i64 b)=>some (.zcF .nilS (b=0))
     | _,_=>none
    | .ro sz n el=>match Nat.beq sz E.size with
     | true=>match lo,hi with
      | some (.int .i64 a),some (.int .i64 b)=>some (.zcF (.ro sz (b.toNat - a.toNat) (fun k=>el (a.toNat+k))) (0≤a∧a≤b∧b≤(n:Int)))
      | none,some (.int .i64 b)=>some (.zcF (.ro sz b.toNat el) (0≤b∧b≤(n:Int)))
      | some (.int .i64 a),none=>some (.zcF (.ro sz (n - a.toNat) (fun k=>el (a.toNat+k))) (0≤a∧a≤(n:Int)))
      | none,none=>some (.val (.ro sz n el))
      | _,_=>none
     | false=>none
    | _=>none
   | none=>none
  | _=>none
 | none=>none
def zk0 (Γ:Tys) (t:TypeId) (x:AV) (lo hi:Option AV) (mx:AV):Option R:=match tyOf Γ t with
 | some T=>match T.d with
  | .slice e=>match tyOf Γ e with
   | some E=>match x with
    | .ro sz n el=>match Nat.beq sz E.size with
     | true=>match lo,hi,mx with
      | none,some (.int .i64 b),.int .i64 c=>some (.zcF (.ro sz b.toNat el) (0≤b∧b≤c∧c≤(n:Int)))
      | _,_,_=>none
     | false=>none
    | _=>none
   | none=>none
  | _=>none
 | none=>none
def zkZ (Γ:Tys) (mg:Mm) (t:TypeId) (id n:Nat) (lo hi mx:Option AV):Option R:=match tyOf Γ t with
 | some T=>match T.d with
  | .slice e=>match tyOf Γ e with
   | some E=>match mg id with
    | some (.buf _ sz n' _)=>match Nat.beq sz E.size with
     | true=>match lo,hi,mx with
      | some (.int .i64 a),some (.int .i64 b),some (.int .i64 c)=>some ⟨.any,[id],[],some (n=n'∧0≤a∧a≤b∧b≤c∧c≤(n':Int)),none⟩
      | some (.int .i64 a),some (.int .i64 b),none=>some ⟨.sb id n' a.toNat b.toNat,[id],[],some (n=n'∧0<n'∧0≤a∧a≤b∧b≤(n':Int)),none⟩
      | none,some (.int .i64 b),none=>some ⟨.sb id n' 0 b.toNat,[id],[],some (n=n'∧0<n'∧0≤b∧b≤(n':Int)),none⟩
      | some (.int .i64 a),none,none=>some ⟨.sb id n' a.toNat n',[id],[],some (n=n'∧0<n'∧0≤a∧a≤(n':Int)),none⟩
      | _,_,_=>none
     | false=>none
    | some (.bufk _ sz n' c _)=>match Nat.beq sz E.size with
     | true=>match lo,hi,mx with
      | some (.int .i64 a),some (.int .i64 b),none=>some ⟨.sb id n' a.toNat b.toNat,[id],[],some (n=n'∧0≤a∧a≤b∧b≤(c:Int)),none⟩
      | _,_,_=>none
     | false=>none
    | _=>none
   | none=>none
  | _=>none
 | none=>none
def optV (val:Operand→AV):Option Operand→Option AV
 | some x=>some (val x)
 | none=>none
def noFz:List Nat→Bool
 | []=>true
 | d::r=>match Nat.ble 16777216 d && Nat.blt d 33554432 with
  | true=>false
  | false=>noFz r
def frz (own:List Nat) (o:Oper):Option R→Option R
 | some r=>match o.dst with
  | some d=>match zbf own (16777216+d % 16777216) with
   | false=>some r
   | true=>match r.v,r.wr,r.rq with
    | .buf id n,[(id',.buf ty sz n' e)],none=>match Nat.beq id' id with
     | true=>some ⟨.ro sz n' e,r.rd,[(id,.dead)],andO (some (n=n')) r.cs,none⟩
     | false=>none
    | _,_,_=>none
  | none=>some r
 | none=>none
def zmM (Γ:Tys) (mg:Mm) (o:Oper) (t:TypeId) (m:AV):Option R:=match tyOf Γ t with
 | some T=>match T.d with
  | .map kt _=>match tyOf Γ kt with
   | some KT=>match KT.d with
    | .int .i64=>match m with
     | .rom _ dom e n=>match fresh mg o with
      | some d=>some ⟨.lp d 0,[d],[(d,.iter e none (fun l=>l.Nodup∧l.length=n∧∀ k,dom k=true↔k∈l))],none,none⟩
      | none=>none
     | _=>none
    | _=>none
   | none=>none
  | _=>none
 | none=>none
def zmO (mg:Mm) (it:AV):Option R:=match it with
 | .lp id 0=>match mg id with
  | some (.iter e (some k) _)=>some ⟨.tup [.int .i64 k,e k],[id],[],none,none⟩
  | _=>none
 | _=>none
def zjq:List AV→Option (List Int)
 | []=>some []
 | .int .i64 n::r=>match zjq r with
  | some l=>some (n::l)
  | none=>none
 | _::_=>none
def isVar (own:List Nat) (o:Oper):Bool:=match o.dst with
 | some d=>zbf own (33554432+d)
 | none=>false
def zmN (mg:Mm) (T:TyD) (p:AV):Option R:=match T.d with
 | .int .i64=>match p with
  | .lp id off=>match mg id with
   | some (.cells cs)=>match zjq cs with
    | some l=>some ⟨.int .i64 (l.getD off 0),[id],[],some (off<l.length),none⟩
    | none=>none
   | _=>none
  | _=>none
 | _=>none
def zk5 (E:TyD) (n:Nat) (x i:AV):Option R:=match E.d,x,i with
 | .int .i64,.agg cs,.int .i64 q=>match Nat.beq E.size 1 with
  | true=>match zjq cs with
   | some l=>some (.zcF (.int .i64 (l.getD q.toNat 0)) (0≤q∧q<(n:Int)∧q.toNat<l.length))
   | none=>none
  | false=>none
 | _,_,_=>none
def evalOp (Γ:Tys) (own:List Nat) (val:Operand→AV) (mg:Mm) (o:Oper) (rv:Option RV):Option R:=match o.op with
 | .move x|.assign x=>some (.val (val x))
 | .pick c x y=>zqJ (val c) (val x) (val y)
 | .alloc t=>match tyOf Γ t with
  | some T=>match fresh mg o with
   | some d=>some ⟨.lp d 0,[d],[(d,.cells (zeros T.zero))],none,none⟩
   | none=>none
  | none=>none
 | .box _ x=>match zgl (val x) with
  | some cs=>match fresh mg o with
   | some d=>some ⟨.lp d 0,[d],[(d,.cells cs)],none,none⟩
   | none=>none
  | none=>none
 | .build t ps=>match tyOf Γ t with
  | some T=>match T.d with
   | .struct fs=>match zcA (zeros T.zero) (fun i=>match nthN i fs with
    | some (off,ft)=>match tyOf Γ ft with
     | some FT=>some (off,FT.size)
     | none=>none
    | none=>none) (zeE val ps.toList) with
    | some cs=>some (.val (.agg cs))
    | none=>none
   | .array _ e=>match tyOf Γ e with
    | some E=>match zcA (zeros T.zero) (fun i=>some (i * E.size,E.size)) (zeE val ps.toList) with
     | some cs=>some (.val (.agg cs))
     | none=>none
    | none=>none
   | _=>none
  | none=>none
 | .buildSlice t n ps=>match tyOf Γ t with
  | some T=>match T.d with
   | .slice e=>match tyOf Γ e with
    | some E=>match Nat.ble (n * E.size) 16777216 with
     | true=>match zcA (repL (zeros E.zero) n) (fun i=>some (i * E.size,E.size)) (zeE val ps.toList) with
      | some cs=>match zlo cs with
       | true=>match singles cs with
        | true=>match o.dst with
         | some d=>match zbf own d with
          | true=>match mg d with
           | none=>match Nat.ble n 16777216 with
            | true=>some ⟨.buf d n,[d],[(d,.buf e E.size n (elemAt E.size cs))],none,none⟩
            | false=>none
           | some _=>none
          | false=>match Nat.ble n 16777216 with
           | true=>some (.val (.ro E.size n (elemAt E.size cs)))
           | false=>none
         | none=>none
        | false=>none
       | false=>none
      | none=>none
     | false=>none
    | none=>none
   | _=>none
  | none=>none
 | .load t p=>match tyOf Γ t with
  | some T=>match isVar own o with
   | true=>zmN mg T (val p)
   | false=>match target mg (val p) with
    | some (cs,rd,c)=>match zdy T cs with
     | some v=>some ⟨v,rd,[],c,none⟩
     | none=>none
    | none=>none
  | none=>none
 | .range t x=>zmM Γ mg o t (val x)
 | .entry x=>zmO mg (val x)
 | .store t p x=>match tyOf Γ t with
  | some T=>match zgl (val x) with
   | some []=>none
   | some (x0::xs)=>match Nat.beq (x0::xs).length T.size with
    | true=>match val p with
     | .lp id off=>match mg id with
      | some (.cells cs)=>match layN off (x0::xs) cs with
       | some cs'=>some ⟨.any,[id],[(id,.cells cs')],none,none⟩
       | none=>none
      | _=>none
     | .ep id n i off=>match mg id with
      | some (.buf ty sz n' e)=>match zlo (x0::xs) with
       | true=>match layE off (x0::xs) sz (e i) with
        | some es=>some ⟨.any,[id],[(id,.buf ty sz n' (fun k=>if k=i then es else e k))],some (n=n'∧i<n'),none⟩
        | none=>none
       | false=>none
      | _=>none
     | _=>none
    | false=>none
   | none=>none
  | none=>none
 | .nilCheck x=>match val x with
  | .rp cs=>some (.val (.rp cs))
  | .po b cs=>some (.zcF (.rp cs) (b=true))
  | .lp id off=>some (.val (.lp id off))
  | .ep id n i off=>some (.val (.ep id n i off))
  | .ge id i k j off=>some (.val (.ge id i k j off))
  | _=>none
 | .binOp op t x y _=>match isWrap own o with
  | true=>zqI op (val x) (val y)
  | false=>zra Γ op t (val x) (val y)
 | .unOp op _ x=>match op,val x with
  | .not,.bool b=>some (.val (.bool (!b)))
  | .neg,.int .i64 n=>some (.zcF (.int .i64 (0 - n)) (inI (0 - n)))
  | _,_=>none
 | .convert s t x=>match tyOf Γ s,tyOf Γ t with
  | some S,some T=>match S.d,T.d,val x with
   | .int .i64,.int .i64,.int .i64 n=>some (.zcF (.int .i64 n) (inI n))
   | .int .i64,.int .u64,.int .i64 n=>some (.zcF (.int .u64 n) (inU n))
   | .int .u64,.int .i64,.int .u64 n=>some (.zcF (.int .i64 n) (inI n))
   | _,_,_=>none
  | _,_=>none
 | .makeFunc f fs cs=>some (.val (.fn f (zfC val fs.toList) (zfC val cs.toList)))
 | .makeMap t none=>match tyOf Γ t with
  | some T=>match T.d with
   | .map _ e=>match tyOf Γ e with
    | some E=>match fresh mg o with
     | some d=>match zbf own d with
      | true=>match E.d with
       | .slice ty=>match tyOf Γ ty with
        | some X=>some ⟨.mp d,[d],[(d,.gmap ty X.size 0 (fun _=>false) (fun _=>0) (fun _ _=>[]) none)],none,none⟩
        | none=>none
       | _=>none
      | false=>some ⟨.mp d,[d],[(d,.map E.zeroV (fun _=>false) (fun _=>zjL E) 0)],none,none⟩
     | none=>none
    | none=>none
   | _=>none
  | none=>none
 | .makeSlice t l c=>match tyOf Γ t with
  | some T=>match T.d with
   | .slice e=>match tyOf Γ e with
    | some E=>match val l,val c with
     | .int .i64 n,.int .i64 m=>match fresh mg o with
      | some d=>some ⟨.buf d n.toNat,[d],[(d,.buf e E.size n.toNat (fun _=>zeros E.zero))],some (0≤n∧n≤m∧room m.toNat E.bytes),none⟩
      | none=>none
     | _,_=>none
    | none=>none
   | _=>none
  | none=>none
 | .slice t x lo hi mx=>match val x with
  | .buf id n=>zkZ Γ mg t id n (optV val lo) (optV val hi) (optV val mx)
  | v=>match mx with
   | none=>zmK Γ t v (optV val lo) (optV val hi)
   | some m=>zk0 Γ t v (optV val lo) (optV val hi) (val m)
 | .fieldAddr t p k=>match tyOf Γ t with
  | some T=>match T.d with
   | .struct fs=>match nthN k fs with
    | some (off,ft)=>match tyOf Γ ft with
     | some FT=>match FT.size with
      | 0=>none
      | _+1=>match zjb off (val p) with
       | some v=>some (.val v)
       | none=>none
     | none=>none
    | none=>none
   | _=>none
  | none=>none
 | .field t x k=>match tyOf Γ t with
  | some T=>match T.d with
   | .struct fs=>match nthN k fs with
    | some (off,ft)=>match tyOf Γ ft with
     | some FT=>match val x with
      | .agg cs=>match zdJ off cs with
       | some r=>match zdy FT r with
        | some v=>some (.val v)
        | none=>none
       | none=>none
      | _=>none
     | none=>none
    | none=>none
   | _=>none
  | none=>none
 | .indexAddr t x i=>zjy Γ mg t (val x) (val i)
 | .index t x i=>match tyOf Γ t with
  | some T=>match T.d with
   | .array n e=>match tyOf Γ e with
    | some E=>match isVar own o with
     | true=>zk5 E n (val x) (val i)
     | false=>match val x,val i with
      | .agg cs,.int .i64 q=>match zdJ (q.toNat * E.size) cs with
       | some r=>match zdy E r with
        | some v=>some (.zcF v (0≤q∧q<(n:Int)))
        | none=>none
       | none=>none
      | _,_=>none
    | none=>none
   | _=>none
  | none=>none
 | .lookup t m k ok=>zk4 Γ mg t (val m) (val k) ok
 | .mapUpdate t m k x|.insert t m k x=>zk3 Γ mg t (val m) (val k) (val x)
 | .makeInterface t x=>match tyOf Γ t with
  | some T=>match T.d with
   | .iface=>none
   | _=>some (.val (.ifc t (val x)))
  | none=>none
 | .extract t i=>match val t with
  | .tup vs=>match nthN i vs with
   | some v=>some (.val v)
   | none=>none
  | _=>none
 | .call ⟨.builtin b,args,ts⟩=>frz own o (zeJ Γ mg o b ts.toList (zfC val args.toList))
 | .call ⟨.value f,args,_⟩=>match val f with
  | .fn (.func g) fs cs=>zpl mg g (fs++(zfC val args.toList++cs)) rv
  | .clo (.func g) fs cs=>zq9 mg g fs (zfC val args.toList) cs rv
  | _=>none
 | _=>none
end Go.Av
end
/- The evaluator is right, part 1: types, lists of cells, what is read. -/
section
set_option linter.all false
namespace Go.Av
def DsOk (P:Program) (t:TypeId):Ds→TypeDesc→Prop
 | .int k,d=>d = .int k
 | .bool,d=>d = .bool
 | .ptr e,d=>d = .pointer e
 | .slice e,d=>d = .slice e
 | .struct fs, d => ∃ f, d = .struct f ∧ f.toList.map (fun x => (x.offset, x.type)) = fs ∧ (∀ x ∈ f.toList, x.name ≠ "_") ∧ P.stoodInHeld t = false ∧ (∀ x ∈ f.toList, (P.info? x.type).isSome = true)
 | .array n e,d=>d = .array n e
 | .map k e,d=>d = .map k e
 | .func,d=>∃ ps rs v,d = .func ps rs v
 | .iface,d=>∃ ms,d = .interface ms
 | .other,d=>(∀ f,d ≠ .struct f)∧(∀ n e,d ≠ .array n e)∧(∀ ms,d ≠ .interface ms)
structure TyOk (P:Program) (t:TypeId) (T:TyD):Prop where
 info:∃ i,P.info? t=some i∧i.size=T.size∧i.bytes=T.bytes∧i.zero=some T.zeroV
 len:T.zero.length=T.size
 one:∀ v,v∈T.zero→single (ze3 v)=true
 pos:T.d.agg=false→T.size=1
 desc:∃ d,P.underlying t=some d∧DsOk P t T.d d
def zbC (P:Program) (Γ:Tys):Prop:=∀ t T,tyOf Γ t=some T→TyOk P t T
theorem zbC.nil (P:Program):zbC P []:=fun _ _ h=>by cases h
theorem zbC.cons {P:Program} {t:TypeId} {T:TyD} {Γ:Tys} (h:TyOk P t T) (k:zbC P Γ):zbC P ((t,T)::Γ):=by
 intro u U hu
 simp only [tyOf] at hu
 cases hb:Nat.beq t u with
 | true=>rw [hb] at hu;cases hu;rw [← Nat.eq_of_beq_eq_true hb];exact h
 | false=>rw [hb] at hu;exact k u U hu
section ty
variable {P:Program} {t:TypeId} {T:TyD} (hT:TyOk P t T) (w:World)
include hT
theorem TyOk.zdx:(sizeOf t).run P w = .ok T.size w:=by
 obtain ⟨i,h1,h2,_,_⟩:=hT.info
 simp [sizeOf,typeInfo,h1,h2]
theorem TyOk.ze2:(zeroValue t).run P w = .ok T.zeroV w:=by
 obtain ⟨i,h1,_,_,h4⟩:=hT.info
 simp [zeroValue,typeInfo,h1,h4]
theorem TyOk.isAgg:(Go.isAgg t).run P w = .ok T.d.agg w:=by
 obtain ⟨d,h1,h2⟩:=hT.desc
 unfold Go.isAgg
 rw [Sem.run_bind,run_underlying h1 w]
 cases hd:T.d <;> rw [hd] at h2 <;> simp only [DsOk] at h2
 case struct fs=>obtain ⟨f,rfl,_⟩:=h2;rfl
 case func=>obtain ⟨_,_,_,rfl⟩:=h2;rfl
 case iface=>obtain ⟨_,rfl⟩:=h2;rfl
 case other=>
  obtain ⟨h3,h4,_⟩:=h2
  cases d <;> first|rfl|exact absurd rfl (h3 _)|exact absurd rfl (h4 _ _)
 all_goals (subst h2;rfl)
theorem TyOk.zbz {e:TypeId} (hd:T.d = .slice e):P.underlying t=some (.slice e):=by
 obtain ⟨d,h1,h2⟩:=hT.desc
 rw [hd] at h2;simp only [DsOk] at h2;rw [h1,h2]
theorem TyOk.zhY {k e:TypeId} (hd:T.d = .map k e):P.underlying t=some (.map k e):=by
 obtain ⟨d,h1,h2⟩:=hT.desc
 rw [hd] at h2;simp only [DsOk] at h2;rw [h1,h2]
theorem TyOk.zi4 {n:Nat} {e:TypeId} (hd:T.d = .array n e):P.underlying t=some (.array n e):=by
 obtain ⟨d,h1,h2⟩:=hT.desc
 rw [hd] at h2;simp only [DsOk] at h2;rw [h1,h2]
theorem TyOk.ze0 {k:IntKind} (hd:T.d = .int k):P.underlying t=some (.int k):=by
 obtain ⟨d,h1,h2⟩:=hT.desc
 rw [hd] at h2;simp only [DsOk] at h2;rw [h1,h2]
theorem TyOk.zmZ (hd:T.d = .bool):P.underlying t=some .bool:=by
 obtain ⟨d,h1,h2⟩:=hT.desc
 rw [hd] at h2;simp only [DsOk] at h2;rw [h1,h2]
theorem TyOk.zgy {fs : List (Nat × TypeId)} (hd : T.d = .struct fs) : ∃ f, P.underlying t = some (.struct f) ∧ f.toList.map (fun x => (x.offset, x.type)) = fs ∧ (∀ x ∈ f.toList, x.name ≠ "_") ∧ P.stoodInHeld t = false ∧ (∀ x ∈ f.toList, (P.info? x.type).isSome = true) := by
 obtain ⟨d,h1,h2⟩:=hT.desc
 rw [hd] at h2;simp only [DsOk] at h2
 obtain ⟨f,rfl,h3⟩:=h2
 exact ⟨f,h1,h3⟩
end ty
theorem zfA {α:Type}:∀ {k:Nat} {l:List α} {x:α},nthN k l=some x→l[k]? = some x
 | 0,_::_,_,h=>by simpa [nthN] using h
 | k+1,_::xs,x,h=>by simpa using zfA (k:=k) (l:=xs) (by simpa [nthN] using h)
 | 0,[],_,h=>by simp [nthN] at h
 | _+1,[],_,h=>by simp [nthN] at h
theorem zc3:∀ {n:Nat} {cs r:List AV},zdJ n cs=some r→r=cs.drop n∧n≤cs.length
 | 0,cs,r,h=>by simp [zdJ] at h;subst h;simp
 | n+1,[],r,h=>by simp [zdJ] at h
 | n+1,_::xs,r,h=>by
  obtain ⟨h1,h2⟩:=zc3 (n:=n) (cs:=xs) (by simpa [zdJ] using h)
  exact ⟨by simpa using h1,by simpa using h2⟩
theorem zhs:∀ {n:Nat} {cs r:List AV},takeN n cs=some r→r=cs.take n∧n≤cs.length
 | 0,cs,r,h=>by simp [takeN] at h;subst h;simp
 | n+1,[],r,h=>by simp [takeN] at h
 | n+1,x::xs,r,h=>by
  simp only [takeN] at h
  cases hx:takeN n xs with
  | none=>rw [hx] at h;cases h
  | some q=>
   rw [hx] at h;cases h
   obtain ⟨h1,h2⟩:=zhs hx
   exact ⟨by simp [h1],by simpa using h2⟩
theorem zm4:∀ {cs r:List AV},spine cs=some r→r=cs
 | [],r,h=>by simp [spine] at h;exact h
 | x::xs,r,h=>by
  simp only [spine] at h
  cases hx:spine xs with
  | none=>rw [hx] at h;cases h
  | some q=>rw [hx] at h;cases h;rw [zm4 hx]
theorem zgE:∀ {n:Nat} {xs cs r:List AV},layN n xs cs=some r→r.length=cs.length∧n+xs.length≤cs.length+n * (if xs=[] then 1 else 0) ∧
 ∀ i,r[i]? = if n≤i∧i<n+xs.length then xs[i - n]? else cs[i]?
 | n,[],cs,r,h=>by
  have:r=cs:=by cases n <;> simpa [layN] using h.symm
  subst this
  refine ⟨rfl,by simp,fun i=>?_⟩
  rw [if_neg (by simp)]
 | 0,x::xs,c::cs,r,h=>by
  simp only [layN] at h
  cases hx:layN 0 xs cs with
  | none=>rw [hx] at h;cases h
  | some q=>
   rw [hx] at h;cases h
   obtain ⟨h1,h2,h3⟩:=zgE hx
   refine ⟨by simp [h1],by simp at h2 ⊢;omega,fun i=>?_⟩
   cases i with
   | zero=>simp
   | succ i=>
    simp only [List.getElem?_cons_succ,h3 i,List.length_cons]
    by_cases hi:i<xs.length
    · rw [if_pos (by omega),if_pos (by omega)];simp
    · rw [if_neg (by omega),if_neg (by omega)]
 | n+1,x::xs,c::cs,r,h=>by
  simp only [layN] at h
  cases hx:layN n (x::xs) cs with
  | none=>rw [hx] at h;cases h
  | some q=>
   rw [hx] at h;cases h
   obtain ⟨h1,h2,h3⟩:=zgE hx
   refine ⟨by simp [h1],by simp at h2 ⊢;omega,fun i=>?_⟩
   cases i with
   | zero=>simp
   | succ i=>
    simp only [List.getElem?_cons_succ,h3 i,List.length_cons]
    by_cases hi:n≤i∧i<n+(xs.length+1)
    · rw [if_pos hi,if_pos (by omega)]
      rw [show i+1 - (n+1)=i - n by omega]
    · rw [if_neg hi,if_neg (by omega)]
 | 0,_::_,[],r,h=>by simp [layN] at h
 | _+1,_::_,[],r,h=>by simp [layN] at h
def RelL (h:Hp) (ρ:Rho) (cs:List AV) (vs:List Value):Prop:=vs.length=cs.length∧∀ (i:Nat) (c:AV) (v:Value),cs[i]? = some c→vs[i]? = some v→Rel h ρ c v
theorem RelL.nil (h:Hp) (ρ:Rho):RelL h ρ [] []:=⟨rfl,fun i c v h=>by simp at h⟩
theorem RelL.cons {h:Hp} {ρ:Rho} {c:AV} {v:Value} {cs:List AV} {vs:List Value} (h1:Rel h ρ c v) (h2:RelL h ρ cs vs):RelL h ρ (c::cs) (v::vs):=by
 refine ⟨by simp [h2.1],fun i x y hx hy=>?_⟩
 cases i with
 | zero=>simp at hx hy;subst hx hy;exact h1
 | succ i=>simp at hx hy;exact h2.2 i x y hx hy
theorem RelL.append {h:Hp} {ρ:Rho} {a b:List AV} {xs ys:List Value} (h1:RelL h ρ a xs) (h2:RelL h ρ b ys):RelL h ρ (a++b) (xs++ys):=by
 refine ⟨by simp [h1.1,h2.1],fun i c v hc hv=>?_⟩
 by_cases hi:i<a.length
 · rw [List.getElem?_append_left hi] at hc
   rw [List.getElem?_append_left (by rw [h1.1];exact hi)] at hv
   exact h1.2 i c v hc hv
 · rw [List.getElem?_append_right (by omega)] at hc
   rw [List.getElem?_append_right (by rw [h1.1];omega),h1.1] at hv
   exact h2.2 _ c v hc hv
theorem RelL.heap {h h':Hp} {ρ:Rho} {cs:List AV} {vs:List Value} (H:RelL h ρ cs vs) (hh:Le h h'):RelL h' ρ cs vs:=⟨H.1,fun i c v a b=>(H.2 i c v a b).heap hh⟩
theorem RelL.get {h:Hp} {ρ:Rho} {cs:List AV} {vs:List Value} (H:RelL h ρ cs vs) {i:Nat} {c:AV} (hc:cs[i]? = some c):∃ v,vs[i]? = some v∧Rel h ρ c v:=by
 have hi:i<vs.length:=by rw [H.1];exact (List.getElem?_eq_some_iff.1 hc).1
 exact ⟨vs[i],List.getElem?_eq_getElem hi,H.2 i c _ hc (List.getElem?_eq_getElem hi)⟩
theorem RelL.zdP {h:Hp} {ρ:Rho} {c:AV} {cs:List AV} {vs:List Value} (H:RelL h ρ (c::cs) vs):∃ v r,vs=v::r∧Rel h ρ c v∧RelL h ρ cs r:=by
 cases vs with
 | nil=>have:=H.1;simp at this
 | cons v r=>exact ⟨v,r,rfl,H.2 0 c v (by simp) (by simp),by have:=H.1;simpa using this,fun i x y hx hy=>H.2 (i+1) x y (by simpa using hx) (by simpa using hy)⟩
theorem zhq:∀ {cs:List AV},zlo cs=true→clL cs=true
 | [],_=>rfl
 | c::cs,h=>by
  simp only [zlo] at h
  cases hc:c.cl with
  | false=>rw [hc] at h;cases h
  | true=>rw [hc] at h;simp [clL,hc,zhq h]
theorem RelL.zdO {h:Hp} {ρ ρ':Rho} {cs:List AV} {vs:List Value} (H:RelL h ρ cs vs) (hc:clL cs=true):RelL h ρ' cs vs:=
 ⟨H.1,fun i c v a b=>(H.2 i c v a b).zdO (ze6 hc a)⟩
theorem zc9 {h:Hp} {ρ:Rho} {a:AV} {v:Value} (H:Rel h ρ a v) (hs:single a=true):v.oneCell'=true∧v.cells = #[v]:=by
 have:v.oneCell'=true:=by
  have hpo:∀ (b:Bool) (cs:List AV) (u:Value),Rel h ρ (.po b cs) u→u.oneCell'=true:=fun b cs u H=>by
   cases H with
   | po _ _ _ _ ht hf=>
    cases b with
    | false=>rw [hf rfl];rfl
    | true=>cases ht rfl;rfl
  have hns:∀ (b:Bool) (c:AV) (u:Value),single (.ns b c)=true→Rel h ρ c u→u.oneCell'=true:=fun b c u hs H=>by
   cases c <;> first|(simp [single] at hs;done)|(cases H;rfl)
  cases H <;> first|rfl|(simp [single] at hs;done)|assumption|exact hns _ _ _ hs (by assumption)|(simp [single] at hs;done)|assumption|exact hpo _ _ _ (.po _ _ _ _ (by assumption) (by assumption))|(rename_i h1 _ _;obtain ⟨_,rfl⟩:=h1;rfl)|(rename_i h1 _;obtain ⟨_,rfl⟩:=h1;rfl)|(rename_i h1;cases h1;rfl)
 refine ⟨this,?_⟩
 cases v <;> first|rfl|(simp [Value.oneCell'] at this)
theorem zg4:∀ {cs:List AV} {i:Nat} {c:AV},singles cs=true→cs[i]? = some c→single c=true
 | [],i,c,_,h=>by simp at h
 | x::cs,i,c,hs,h=>by
  simp only [singles] at hs
  cases hx:single x with
  | false=>rw [hx] at hs;cases hs
  | true=>
   rw [hx] at hs
   cases i with
   | zero=>simp at h;rw [← h];exact hx
   | succ i=>exact zg4 hs (by simpa using h)
theorem RelL.ones {h:Hp} {ρ:Rho} {cs:List AV} {vs:List Value} (H:RelL h ρ cs vs) (hs:singles cs=true):∀ x,x∈vs→x.oneCell'=true:=by
 intro x hx
 obtain ⟨i,hi,rfl⟩:=List.getElem_of_mem hx
 have hi':i<cs.length:=by rw [← H.1];exact hi
 exact (zc9 (H.2 i cs[i] _ (List.getElem?_eq_getElem hi') (List.getElem?_eq_getElem hi)) (zg4 hs (List.getElem?_eq_getElem hi'))).1
theorem zeW {h:Hp} {ρ:Rho} {a:AV} {v:Value} {cs:List AV} (hc:zgl a=some cs) (H:Rel h ρ a v):∃ vs:List Value,v.cells=vs.toArray∧RelL h ρ cs vs∧∀ x∈vs,x.oneCell'=true:=by
 by_cases hag:∃ ds,a = .agg ds
 · obtain ⟨ds,rfl⟩:=hag
   simp only [zgl] at hc
   cases hs:singles ds with
   | false=>rw [hs] at hc;cases hc
   | true=>
    rw [hs] at hc;cases hc
    cases H with
    | agg _ _ vs hl hc=>
     refine ⟨vs,rfl,⟨hl,hc⟩,fun x hx=>?_⟩
     obtain ⟨i,hi,rfl⟩:=List.getElem_of_mem hx
     have hi':i<cs.length:=by omega
     exact (zc9 (hc i cs[i] _ (List.getElem?_eq_getElem hi') (List.getElem?_eq_getElem hi)) (zg4 hs (List.getElem?_eq_getElem hi'))).1
 · have h2:(match single a with|true=>some [a]|false=>none)=some cs:=by
    cases a <;> first|exact hc|exact absurd ⟨_,rfl⟩ hag
   cases hs:single a with
   | false=>rw [hs] at h2;cases h2
   | true=>
    rw [hs] at h2;cases h2
    obtain ⟨h3,h4⟩:=zc9 H hs
    exact ⟨[v],by rw [h4],RelL.cons H (RelL.nil _ _),by simpa using h3⟩
theorem zby:∀ vs:List Value,(zeros vs).length=vs.length
 | []=>rfl
 | v::vs=>by simp [zeros,zby vs]
theorem RelL.zeros (h:Hp) (ρ:Rho):∀ vs:List Value,RelL h ρ (Av.zeros vs) vs
 | []=>RelL.nil _ _
 | v::vs=>RelL.cons (Rel.ze3 h ρ v) (RelL.zeros h ρ vs)
theorem zbD {P:Program} {t:TypeId} {T:TyD} (hT:TyOk P t T):T.zeroV.cells=T.zero.toArray:=by
 unfold TyD.zeroV
 cases ha:T.d.agg with
 | true=>rfl
 | false=>
  have h1:=hT.pos ha
  have h2:=hT.len
  rw [h1] at h2
  match hz:T.zero,h2 with
  | [v],_=>
   have:=hT.one v (by rw [hz];simp)
   exact (zc9 (Rel.ze3 (fun _=>none) ρ0 v) this).2
theorem Rel.zjL {P:Program} {t:TypeId} {T:TyD} (_hT:TyOk P t T) (h:Hp) (ρ:Rho):Rel h ρ (Av.zjL T) T.zeroV:=by
 unfold Av.zjL TyD.zeroV
 cases ha:T.d.agg with
 | true=>exact .agg _ _ _ (RelL.zeros h ρ T.zero).1 (RelL.zeros h ρ T.zero).2
 | false=>
  cases hz:T.zero with
  | nil=>exact .any _ _
  | cons v vs=>exact Rel.ze3 h ρ v
section reads
variable {P:Program} {N:Nat} {C:Ctx} {h:Hp} {ρ:Rho} {F:Fr} {M:Mm} {g:Nat} {a:Act} {w:World}
theorem InvH.cell (I:InvH N C h ρ F M g a w) {ad:Addr} {v:Value} (hc:cellOf h ad=some v):w.cell? ad=some v:=by
 unfold cellOf at hc
 cases hb:h ad.block with
 | none=>simp [hb] at hc
 | some o=>
  have:=I.hp _ _ hb
  simp only [hb] at hc
  unfold World.cell?
  rw [this]
  cases o <;> first|exact hc|cases hc
def Lies (w:World) (h:Hp) (ρ:Rho) (ad:Addr) (cs:List AV):Prop:=∀ (j:Nat) (c:AV),cs[j]? = some c→∃ x,w.cell? (ad.add j)=some x∧Rel h ρ c x
theorem zht {ad:Addr} {cs:List AV} (H:Lies w h ρ ad cs) {T:TyD} {t:TypeId} (hT:TyOk P t T) {v:AV} (ho:zdy T cs=some v):∃ x,(loadVar t ad).run P w = .ok x w∧Rel h ρ v x:=by
 unfold zdy at ho
 cases ha:T.d.agg with
 | false=>
  rw [ha] at ho
  cases cs with
  | nil=>simp at ho
  | cons c cs=>
   simp at ho;subst ho
   obtain ⟨x,h1,h2⟩:=H 0 c (by simp)
   have h0:ad.add 0=ad:=by simp [Addr.add]
   rw [h0] at h1
   refine ⟨x,?_,h2⟩
   simp [loadVar,Sem.run_bind,hT.isAgg w,ha,h1]
 | true=>
  rw [ha] at ho
  simp only [] at ho
  cases hk:takeN T.size cs with
  | none=>rw [hk] at ho;cases ho
  | some xs=>
   rw [hk] at ho;cases ho
   obtain ⟨rfl,hlen⟩:=zhs hk
   have hf:∀ j,j<T.size→w.cell? (ad.add j)=some ((w.cell? (ad.add j)).getD undef):=by
    intro j hj
    have hj':j<cs.length:=by omega
    obtain ⟨x,h1,_⟩:=H j cs[j] (List.getElem?_eq_getElem hj')
    rw [h1];rfl
   have hr:=run_loadCells (P:=P) w ad T.size (fun j=>(w.cell? (ad.add j)).getD undef) hf
   refine ⟨.agg ((List.range T.size).map fun j=>(w.cell? (ad.add j)).getD undef).toArray,?_,?_⟩
   · simp [loadVar,Sem.run_bind,hT.isAgg w,ha,hT.zdx w,hr]
   · refine .agg _ _ _ (by simp;omega) fun i c v hc hv=>?_
     rw [List.getElem?_take] at hc
     split at hc
     · rename_i hi
       obtain ⟨x,h1,h2⟩:=H i c hc
       simp [List.getElem?_map,List.getElem?_range hi,h1] at hv
       rw [← hv];exact h2
     · cases hc
theorem zis (I:InvH N C h ρ F M g a w) {mg:Mm} {p:AV} {cs:List AV} {rd:List Nat} {c:Option Prop} (ht:target mg p=some (cs,rd,c)) (hm:∀ id,id∈rd→M id=mg id)
 (hc:∀ q,c=some q→q) {v:Value} (H:Rel h ρ p v):∃ ad,v = .pointer (some ad)∧Lies w h ρ ad cs:=by
 cases p <;> simp only [target] at ht <;> try (cases ht;done)
 case rp cs0=>
  cases ht
  cases H with
  | rp _ _ ad hs hc'=>
   refine ⟨ad,rfl,fun j x hx=>?_⟩
   obtain ⟨u,hu⟩:=Option.isSome_iff_exists.1 (hs j (List.getElem?_eq_some_iff.1 hx).1)
   exact ⟨u,I.cell hu,(hc' j x u hx hu).closed⟩
 case pin hp0 q=>
  cases q <;> simp only [target] at ht <;> try (cases ht;done)
  rename_i cs0
  cases ht
  cases H with
  | pin _ _ _ _ hl hv=>
  cases hv with
  | rp _ _ ad hs hc'=>
   refine ⟨ad,rfl,fun j x hx=>?_⟩
   obtain ⟨c0,e1,rfl⟩:=znc hx
   obtain ⟨u,hu⟩:=Option.isSome_iff_exists.1 (hs j (List.getElem?_eq_some_iff.1 e1).1)
   exact ⟨u,I.cell (hl.cellOf hu),zpZ hl (hc' j c0 u e1 hu)⟩
 case lp id off=>
  cases hg:mg id with
  | none=>simp [hg] at ht
  | some bl=>
   cases bl <;> simp only [hg] at ht <;> try (cases ht;done)
   rename_i cs0
   cases hd:zdJ off cs0 with
   | none=>simp [hd] at ht
   | some r=>
    rw [hd] at ht;cases ht
    obtain ⟨rfl,hle⟩:=zc3 hd
    have hM:=I.blk id _ ((hm id (by simp)).trans hg)
    obtain ⟨b,vs,ty,h1,h2,h3,h4⟩:=hM
    cases H with
    | lp _ _ _ b' hb=>
     rw [h1] at hb;cases hb
     refine ⟨_,rfl,fun j x hx=>?_⟩
     rw [List.getElem?_drop] at hx
     have hlt:off+j<vs.length:=by rw [h3];exact (List.getElem?_eq_some_iff.1 hx).1
     refine ⟨vs[off+j],?_,h4 _ x _ hx (List.getElem?_eq_getElem hlt)⟩
     rw [Addr.add_lit,cell_of_row w b (off+j) _ ty _ h2]
     simp [hlt]
 case ep id n i off=>
  cases hg:mg id with
  | none=>simp [hg] at ht
  | some bl=>
   cases bl <;> simp only [hg] at ht <;> try (cases ht;done)
   rename_i ty sz n' e
   cases hd:zdJ off (e i) with
   | none=>simp [hd] at ht
   | some r=>
    rw [hd] at ht;cases ht
    obtain ⟨rfl,hle⟩:=zc3 hd
    obtain ⟨rfl,hin⟩:=hc _ rfl
    have hM:=I.blk id _ ((hm id (by simp)).trans hg)
    obtain ⟨v0,xs,h1,h2,h3,_,h4⟩:=hM
    cases H with
    | ep _ _ _ _ _ n2 sz2 _ v2 hb hle2 _ he=>
     rw [h1] at hb;cases hb
     obtain ⟨b,cap,rfl,rfl⟩:=he rfl
     refine ⟨_,rfl,fun j x hx=>?_⟩
     rw [List.getElem?_drop] at hx
     have hlt:off+j<sz:=by rw [← h3 i hin];exact (List.getElem?_eq_some_iff.1 hx).1
     have hlt2:i * sz+(off+j)<xs.length:=by
      rw [h2.1]
      calc i * sz+(off+j)<i * sz+sz:=by omega
       _=(i+1) * sz:=by rw [Nat.add_mul,Nat.one_mul]
       _≤n * sz:=Nat.mul_le_mul_right _ hin
     refine ⟨xs[i * sz+(off+j)],?_,(h4 i (off+j) x _ hin hx (List.getElem?_eq_getElem hlt2)).closed⟩
     have:=h2.cells (g:=b) rfl (i * sz+(off+j)) _ (List.getElem?_eq_getElem hlt2)
     rw [Addr.add_lit] at this ⊢
     rw [← this]
     congr 1
     simp
 case gp id n0 i=>
  cases hg:mg id with
  | none=>simp [hg] at ht
  | some bl=>
   cases bl <;> simp only [hg] at ht <;> try (cases ht;done)
   rename_i tS ty sz n m e
   cases ht
   obtain ⟨rfl,hin⟩:=hc _ rfl
   obtain ⟨v0,rows,h1,h2,h3,h4,_,_⟩:=I.blk id _ ((hm id (by simp)).trans hg)
   cases H with
   | gp _ _ _ _ li ad hb hgg=>
    rw [h1] at hb;cases hb
    obtain ⟨b,cap,rfl,rfl⟩:=(hgg _ _ _ rfl).2 h2.symm
    refine ⟨_,rfl,fun j x hx=>?_⟩
    have hj:j=0:=by
     have:=(List.getElem?_eq_some_iff.1 hx).1
     simp at this;exact this
    subst hj
    simp at hx;subst hx
    have hlt:i<rows.length:=by omega
    obtain ⟨q0,q1,_⟩:=h4 i _ (List.getElem?_eq_getElem hlt)
    refine ⟨rows[i].2,?_,.gr' _ _ _ _ _ _ h1 (fun v1 sz1 rows1 ee=>by cases ee;exact ⟨rows[i].1,rows[i].2,List.getElem?_eq_getElem hlt,by omega,fun _=>rfl⟩) q1⟩
    have:=h3.cells (g:=b) rfl i rows[i].2 (by rw [List.getElem?_map,List.getElem?_eq_getElem hlt];rfl)
    rw [Addr.add_lit] at this ⊢
    rw [← this]
    simp
 case ge id i k j0 off=>
  cases hg:mg id with
  | none=>simp [hg] at ht
  | some bl=>
   cases bl <;> simp only [hg] at ht <;> try (cases ht;done)
   rename_i tS ty sz n m e
   cases hd:zdJ off (e i j0) with
   | none=>simp [hd] at ht
   | some r=>
    rw [hd] at ht;cases ht
    obtain ⟨rfl,hle⟩:=zc3 hd
    obtain ⟨rfl,hin,hj0⟩:=hc _ rfl
    obtain ⟨v0,rows,h1,h2,h3,h4,_,_⟩:=I.blk id _ ((hm id (by simp)).trans hg)
    cases H with
    | ge _ _ _ _ _ _ li v hb _ hgg=>
     rw [h1] at hb;cases hb
     obtain ⟨m',v',hi,hle',he⟩:=hgg _ _ _ rfl
     obtain ⟨q0,q1,xs,q2,q3,q4,q5⟩:=h4 i _ hi
     simp only at q0 q2
     subst q0
     obtain ⟨b,cap,rfl,rfl⟩:=he rfl
     refine ⟨_,rfl,fun j x hx=>?_⟩
     rw [List.getElem?_drop] at hx
     have hlt:off+j<sz:=by rw [← q3 j0 hj0];exact (List.getElem?_eq_some_iff.1 hx).1
     have hlt2:j0 * sz+(off+j)<xs.length:=by
      rw [q2.1]
      calc j0 * sz+(off+j)<j0 * sz+sz:=by omega
       _=(j0+1) * sz:=by rw [Nat.add_mul,Nat.one_mul]
       _≤m i * sz:=Nat.mul_le_mul_right _ hj0
     refine ⟨xs[j0 * sz+(off+j)],?_,(q5 j0 (off+j) x _ hj0 hx (List.getElem?_eq_getElem hlt2)).closed⟩
     have:=q2.cells (g:=b) rfl (j0 * sz+(off+j)) _ (List.getElem?_eq_getElem hlt2)
     rw [Addr.add_lit] at this ⊢
     rw [← this]
     congr 1
     simp [Nat.add_assoc]
end reads
end Go.Av
end
/- The evaluator is right, part 2: one operation. -/
section
set_option linter.all false
namespace Go.Av
def Runs (P:Program) (a:Act) (o:Oper) (w:World) (x:Value) (w':World):Prop:=
 (execOp a.eval o).run P w = .ok (.value x) w'∨((execOp a.eval o).run P w = .ok .skip w'∧x=undef)
def updL (M:Mm):List (Nat×Blk)→Mm
 | []=>M
 | (i,b)::r=>updL (upd M i (some b)) r
theorem zmY (M:Mm) (i:Nat) (b:Blk):updL M [(i,b)]=upd M i (some b):=rfl
def Good (P:Program) (N:Nat) (C:Ctx) (h:Hp) (ρ:Rho) (F:Fr) (M:Mm) (g:Nat) (a:Act) (o:Oper) (w:World) (r:R):Prop:=
 ∃ x w' h' ρ',Runs P a o w x w'∧InvH N C h' ρ' F (updL M r.wr) g a w'∧Rel h' ρ' r.v x
section
variable {P:Program} {N:Nat} {C:Ctx} {h:Hp} {ρ:Rho} {F:Fr} {M:Mm} {g:Nat} {a:Act} {w:World} {Γ:Tys} {mg:Mm} {o:Oper}
theorem Good.same (I:InvH N C h ρ F M g a w) {r:R} {x:Value} (hr:Runs P a o w x w) (hw:r.wr=[]) (hv:Rel h ρ r.v x):Good P N C h ρ F M g a o w r:=
 ⟨x,w,h,ρ,hr,by rw [hw];exact I,hv⟩
theorem zcM {d:Nat} (hf:fresh mg o=some d):o.dst=some d∧mg d=none:=by
 unfold fresh at hf
 cases hd:o.dst with
 | none=>rw [hd] at hf;cases hf
 | some e=>
  rw [hd] at hf
  simp only [] at hf
  cases hm:mg e with
  | none=>rw [hm] at hf;cases hf;exact ⟨rfl,hm⟩
  | some b=>rw [hm] at hf;cases hf
theorem zbN.zpu {d:Nat} {cs:List AV} {vs:List Value} {ty:TypeId} (H:RelL h ρ cs vs) (hd:ρ d=none) :
 zbN h (upd ρ d (some (.blk w.heap.size))) d (.cells cs) (w.alloc (.cells vs.toArray ty)):=by
 refine ⟨w.heap.size,vs,ty,zaf _ _ _,heap_alloc_new w _,H.1,fun i c v hc hv=>(H.2 i c v hc hv).mono (Le.refl h) ?_⟩
 intro i li hi
 have hne:i≠d:=by rintro rfl;rw [hd] at hi;cases hi
 exact ⟨li,by rw [zae _ _ hne];exact hi,.inl rfl⟩
theorem Good.znh (I:InvH N C h ρ F M g a w) {d:Nat} {cs:List AV} {vs:List Value} {ty:TypeId} (hd:M d=none) (H:RelL h ρ cs vs)
 (hr:Runs P a o w (.pointer (some ⟨w.heap.size,0,none⟩)) (w.alloc (.cells vs.toArray ty))):Good P N C h ρ F M g a o w ⟨.lp d 0,[d],[(d,.cells cs)],none,none⟩:=by
 have hρ:=I.dom d hd
 exact ⟨_,_,h,_,hr,I.zeZ hd _ (.blk w.heap.size) (.cells cs) (fun b hb=>(Option.some.inj hb).symm) (zbN.zpu H hρ),.lp _ _ _ _ (zaf _ _ _)⟩
theorem zqq (hΓ:zbC P Γ) (I:InvH N C h ρ F M g a w) {t:TypeId} (ho:o.op = .alloc t) {T:TyD} (hT:tyOf Γ t=some T) {d:Nat} (hd:M d=none) :
 Good P N C h ρ F M g a o w ⟨.lp d 0,[d],[(d,.cells (zeros T.zero))],none,none⟩:=by
 have hTy:=hΓ t T hT
 refine Good.znh I hd (RelL.zeros h ρ T.zero) (ty:=t) (.inl ?_)
 unfold execOp
 simp [ho,Instr.alloc,hTy.ze2 w,newVar,newRow,zbD hTy]
theorem ev_box (I:InvH N C h ρ F M g a w) {t:TypeId} {x:Operand} (ho:o.op = .box t x) {v:AV} (hv:Rel h ρ v (a.eval x)) {cs:List AV} (hc:zgl v=some cs) {d:Nat} (hd:M d=none) :
 Good P N C h ρ F M g a o w ⟨.lp d 0,[d],[(d,.cells cs)],none,none⟩:=by
 obtain ⟨vs,h1,h2,_⟩:=zeW hc hv
 refine Good.znh I hd h2 (ty:=t) (.inl ?_)
 unfold execOp
 simp [ho,Instr.box,newVar,newRow,h1]
theorem zpf (hΓ:zbC P Γ) (I:InvH N C h ρ F M g a w) {t:TypeId} {x:Operand} (ho:o.op = .load t x) {T:TyD} (hT:tyOf Γ t=some T) {p:AV} (hp:Rel h ρ p (a.eval x)) {cs:List AV} {rd:List Nat} {c:Option Prop}
 (ht:target mg p=some (cs,rd,c)) (hm:∀ id,id∈rd→M id=mg id) (hc:∀ q,c=some q→q) {v:AV} (hv:zdy T cs=some v):Good P N C h ρ F M g a o w ⟨v,rd,[],c,none⟩:=by
 obtain ⟨ad,h1,h2⟩:=zis I ht hm hc hp
 obtain ⟨y,h3,h4⟩:=zht h2 (hΓ t T hT) hv
 refine Good.same I (.inl ?_) rfl h4
 unfold execOp
 simp [ho,h1,Instr.loadAt,Instr.sureAddr,h3]
theorem zix {off:Nat} {p q:AV} (hq:zjb off p=some q) {v:Value} (H:Rel h ρ p v):∃ ad,v = .pointer (some ad)∧Rel h ρ q (.pointer (some (ad.add off))):=by
 cases p <;> simp only [zjb] at hq <;> try (cases hq;done)
 case rp cs=>
  cases hd:zdJ off cs with
  | none=>rw [hd] at hq;cases hq
  | some r=>
   rw [hd] at hq;cases hq
   obtain ⟨rfl,hle⟩:=zc3 hd
   cases H with
   | rp _ _ ad hs hc=>
    have hadd:∀ j,(ad.add off).add j=ad.add (off+j):=by
     intro j
     unfold Addr.add
     split <;> split <;> split <;> simp_all <;> omega
    refine ⟨ad,rfl,.rp _ _ _ (fun j hj=>?_) (fun j c v hj hv=>?_)⟩
    · rw [hadd];exact hs _ (by simp at hj;omega)
    · rw [hadd] at hv;rw [List.getElem?_drop] at hj;exact hc _ c v hj hv
 case pin hp0 q0=>
  cases q0 <;> simp only [zjb] at hq <;> try (cases hq;done)
  rename_i cs
  cases hd:zdJ off cs with
  | none=>rw [hd] at hq;cases hq
  | some r=>
   rw [hd] at hq;cases hq
   obtain ⟨rfl,hle⟩:=zc3 hd
   cases H with
   | pin _ _ _ _ hl hv=>
   cases hv with
   | rp _ _ ad hs hc=>
    have hadd:∀ j,(ad.add off).add j=ad.add (off+j):=by
     intro j
     unfold Addr.add
     split <;> split <;> split <;> simp_all <;> omega
    refine ⟨ad,rfl,.pin _ _ _ _ hl (.rp _ _ _ (fun j hj=>?_) (fun j c v hj hv=>?_))⟩
    · rw [hadd];exact hs _ (by simp at hj;omega)
    · rw [hadd] at hv;rw [List.getElem?_drop] at hj;exact hc _ c v hj hv
 case lp id o=>
  cases hq
  cases H with
  | lp _ _ _ b hb=>exact ⟨_,rfl,by rw [Addr.add_lit];exact .lp _ _ _ _ hb⟩
 case ep id n i o=>
  cases hq
  cases H with
  | ep _ _ _ _ _ n' sz _ v' hb hle h1 he=>
   obtain ⟨ad,rfl⟩:=h1
   refine ⟨ad,rfl,.ep _ _ _ _ _ _ _ _ _ hb hle ⟨_,rfl⟩ (fun e=>?_)⟩
   obtain ⟨b,cap,h2,h3⟩:=he e
   cases h3
   exact ⟨b,cap,h2,by rw [Addr.add_lit,Nat.add_assoc]⟩
 case ge id i k j o=>
  cases hq
  cases H with
  | ge _ _ _ _ _ _ li v hb h1 hgg=>
   obtain ⟨ad,rfl⟩:=h1
   refine ⟨ad,rfl,.ge _ _ _ _ _ _ _ _ hb ⟨_,rfl⟩ (fun v0 sz rows e0=>?_)⟩
   obtain ⟨m',v',hi,hle,he⟩:=hgg _ _ _ e0
   refine ⟨m',v',hi,hle,fun e=>?_⟩
   obtain ⟨b,cap,h2,h3⟩:=he e
   cases h3
   exact ⟨b,cap,h2,by rw [Addr.add_lit,Nat.add_assoc]⟩
theorem zlx (P:Program) (w:World):∀ (l:List Field),(∀ x∈l,(P.info? x.type).isSome=true) →
 (l.mapM (fun f=>do pure (f.offset,← sizeOf f.type)):Sem (List (Nat×Nat))).run P w = .ok (l.map fun f=>(f.offset,P.cellsOf f.type)) w
 | [],_=>rfl
 | f::l,hl=>by
  obtain ⟨i,hi⟩:=Option.isSome_iff_exists.1 (hl f (by simp))
  have ih:=zlx P w l (fun x hx=>hl x (by simp [hx]))
  rw [List.mapM_cons]
  simp only [Sem.run_bind,sizeOf,typeInfo,run_program,Result.andThen_ok,hi,Sem.run_pure] at ih ⊢
  rw [ih]
  simp [Program.cellsOf,hi]
theorem TyOk.cellsOf {t:TypeId} {T:TyD} (hT:TyOk P t T):P.cellsOf t=T.size:=by
 obtain ⟨i,h1,h2,_,_⟩:=hT.info
 simp [Program.cellsOf,h1,h2]
theorem zlZ (off:Nat):∀ (ys:List Value) (j:Nat) (A:Array Value),((ys.zipIdx j).foldl (fun cs (c,i)=>cs.setIfInBounds (off+i) c) A).size=A.size ∧
 ∀ k,((ys.zipIdx j).foldl (fun cs (c,i)=>cs.setIfInBounds (off+i) c) A)[k]? = if off+j≤k∧k<off+j+ys.length∧k<A.size then ys[k - (off+j)]? else A[k]?
 | [],j,A=>⟨rfl,fun k=>by rw [if_neg (by simp;omega)];rfl⟩
 | y::ys,j,A=>by
  obtain ⟨h1,h2⟩:=zlZ off ys (j+1) (A.setIfInBounds (off+j) y)
  simp only [List.zipIdx_cons,List.foldl_cons]
  refine ⟨by simpa using h1,fun k=>?_⟩
  rw [h2 k]
  simp only [Array.size_setIfInBounds,List.length_cons,Array.getElem?_setIfInBounds]
  by_cases hk:k<A.size
  · by_cases he:off+j=k
    · subst he
      rw [if_neg (by omega),if_pos rfl,if_pos hk,if_pos (by omega)]
      simp
    · by_cases hc:off+(j+1)≤k∧k<off+(j+1)+ys.length
      · rw [if_pos (by omega),if_pos (by omega),show k - (off+j)=k - (off+(j+1))+1 by omega]
        simp
      · rw [if_neg (by omega),if_neg he,if_neg (by omega)]
  · have hn:A[k]? = none:=by simp;omega
    rw [if_neg (fun hh=>hk hh.2.2)]
    rw [show (if off+j≤k∧k<off+j+(ys.length+1)∧k<A.size then (y::ys)[k - (off+j)]? else A[k]?)=A[k]? from if_neg (fun hh=>hk hh.2.2)]
    by_cases he:off+j=k
    · rw [if_pos he,if_neg (by omega),hn]
    · rw [if_neg he]
theorem zd7 {place:Nat→Option (Nat×Nat)} {place':Nat→Option (Nat×Nat)} (hp:∀ i q,place i=some q→place' i=some q) :
 ∀ {ps:List (Nat×AV)} {qs:List (Nat×Value)} {zs cs:List AV} {vs:List Value},zcA zs place ps=some cs→RelL h ρ zs vs→ps.length=qs.length →
  (∀ (k i j:Nat) (v:AV) (x:Value),ps[k]? = some (i,v)→qs[k]? = some (j,x)→i=j∧Rel h ρ v x)→∃ us:List Value,Instr.fill place' vs.toArray qs=some us.toArray∧RelL h ρ cs us
 | [],[],zs,cs,vs,hl,hz,_,_=>by simp [zcA] at hl;subst hl;exact ⟨vs,rfl,hz⟩
 | [],_::_,_,_,_,_,_,hn,_=>by simp at hn
 | _::_,[],_,_,_,_,_,hn,_=>by simp at hn
 | (i,v)::ps,(j,x)::qs,zs,cs,vs,hl,hz,hn,hq=>by
  obtain ⟨rfl,hv⟩:=hq 0 i j v x (by simp) (by simp)
  simp only [zcA] at hl
  cases hpl:place i with
  | none=>rw [hpl] at hl;cases hl
  | some q=>
   obtain ⟨off,sz⟩:=q
   rw [hpl] at hl
   simp only [] at hl
   cases hc:zgl v with
   | none=>rw [hc] at hl;cases hl
   | some xs=>
    rw [hc] at hl
    cases xs with
    | nil=>cases hl
    | cons x0 xs=>
    simp only [] at hl
    cases hb:Nat.beq (x0::xs).length sz with
    | false=>rw [hb] at hl;cases hl
    | true=>
     rw [hb] at hl
     simp only [] at hl
     cases hy:layN off (x0::xs) zs with
     | none=>rw [hy] at hl;cases hl
     | some zs'=>
      rw [hy] at hl
      simp only [] at hl
      have hsz:=Nat.eq_of_beq_eq_true hb
      obtain ⟨ys,h1,h2,_⟩:=zeW hc hv
      obtain ⟨h3,h4,h5⟩:=zgE hy
      have hylen:ys.length=sz:=by rw [h2.1,hsz]
      rw [if_neg (by simp)] at h4
      have hfit:off+ys.length≤vs.length:=by rw [h2.1,hz.1];simpa using h4
      obtain ⟨f1,f2⟩:=zlZ off ys 0 vs.toArray
      obtain ⟨A,hA⟩:∃ A,(ys.zipIdx 0).foldl (fun cs (c,i)=>cs.setIfInBounds (off+i) c) vs.toArray=A:=⟨_,rfl⟩
      rw [hA] at f1 f2
      have hz':RelL h ρ zs' A.toList:=by
       refine ⟨by simp at f1 ⊢;rw [f1,h3,hz.1],fun k c u hck hu=>?_⟩
       have hu':A[k]? = some u:=by simpa using hu
       rw [f2 k] at hu'
       rw [h5 k] at hck
       simp only [Nat.add_zero] at hu'
       have hkl:k<vs.length:=by
        have:=(List.getElem?_eq_some_iff.1 hu).1
        simp at this f1;omega
       by_cases hin:off≤k∧k<off+ys.length
       · rw [if_pos (by simp;omega)] at hu'
         rw [if_pos (by rw [← h2.1];exact hin)] at hck
         exact h2.2 _ c u hck hu'
       · rw [if_neg (by omega)] at hu'
         rw [if_neg (by rw [← h2.1];exact hin)] at hck
         exact hz.2 k c u hck (by simpa using hu')
      obtain ⟨us,h6,h7⟩:=zd7 hp (vs:=A.toList) hl hz' (by simpa using hn) (fun k i j v x hk hk'=>hq (k+1) i j v x (by simpa using hk) (by simpa using hk'))
      refine ⟨us,?_,h7⟩
      have hsize:x.cells.size=sz:=by rw [h1];simpa using hylen
      have hng:¬ (vs.toArray.size<off+x.cells.size):=by rw [h1];simp;omega
      simp only [Instr.fill,hp i _ hpl]
      rw [if_neg (by simp [hsize];rw [← hsize];simpa using hng)]
      have hfold:(x.cells.zipIdx.foldl (fun cs (c,j)=>cs.setIfInBounds (off+j) c) vs.toArray)=A:=by
       rw [← hA,h1,← Array.foldl_toList,Array.toList_zipIdx]
      rw [hfold]
      simpa using h6
theorem zhv {zs:List AV}:∀ {n i:Nat},i<n * zs.length→(repL zs n)[i]? = zs[i % zs.length]?
 | 0,i,h=>by simp at h
 | n+1,i,h=>by
  simp only [repL]
  by_cases hi:i<zs.length
  · rw [List.getElem?_append_left hi,Nat.mod_eq_of_lt hi]
  · rw [Nat.add_mul,Nat.one_mul] at h
    rw [List.getElem?_append_right (by omega),zhv (n:=n) (by omega)]
    rw [Nat.mod_eq_sub_mod (a:=i) (by omega)]
theorem ziR {zs:List AV}:∀ n:Nat,(repL zs n).length=n * zs.length
 | 0=>by simp [repL]
 | n+1=>by simp [repL,ziR n,Nat.add_mul,Nat.add_comm]
theorem RelL.made {t:TypeId} {T:TyD} (hT:TyOk P t T) (h:Hp) (ρ:Rho) (n:Nat):RelL h ρ (repL (Av.zeros T.zero) n) (madeCells T.zero.toArray (n * T.size)).toList:=by
 refine ⟨by simp [madeCells,ziR,zby,hT.len],fun i c v hc hv=>?_⟩
 have hi:i<n * T.size:=by
  have:=(List.getElem?_eq_some_iff.1 hc).1
  rw [ziR,zby,hT.len] at this;exact this
 rw [zhv (by rw [zby,hT.len];exact hi),zby,hT.len] at hc
 have hpos:0<T.size:=by
  rcases Nat.eq_zero_or_pos T.size with h0|h0
  · rw [h0] at hi;simp at hi
  · exact h0
 have hlt:i % T.size<T.zero.length:=by rw [hT.len];exact Nat.mod_lt _ hpos
 have hv':v=T.zero[i % T.size]:=by
  have h1:(madeCells T.zero.toArray (n * T.size))[i]? = some v:=by simpa using hv
  unfold madeCells at h1
  rw [Array.getElem?_map,Array.getElem?_range] at h1
  simp [hi,hT.len] at h1
  rw [← h1]
  have hlt':i % T.size<T.zero.toArray.size:=by simpa using hlt
  simp [hlt]
 subst hv'
 exact (RelL.zeros h ρ T.zero).2 _ c _ hc (List.getElem?_eq_getElem hlt)
end
end Go.Av
end
/- The evaluator is right, part 3: more operations. -/
section
set_option linter.all false
namespace Go.Av
section
variable {P:Program} {N:Nat} {C:Ctx} {h:Hp} {ρ:Rho} {F:Fr} {M:Mm} {g:Nat} {a:Act} {w:World} {Γ:Tys} {mg:Mm} {o:Oper}
theorem zgx {val:Operand→AV}:∀ (ps:List (Nat×Operand)),(∀ p∈ps,Rel h ρ (val p.2) (a.eval p.2)) →
 (zeE val ps).length=(ps.map fun (i,x)=>(i,a.eval x)).length ∧
 ∀ (k i j:Nat) (v:AV) (x:Value),(zeE val ps)[k]? = some (i,v)→(ps.map fun (i,x)=>(i,a.eval x))[k]? = some (j,x)→i=j∧Rel h ρ v x
 | [],_=>⟨rfl,fun k i j v x hk=>by simp [zeE] at hk⟩
 | (n,y)::ps,hp=>by
  obtain ⟨h1,h2⟩:=zgx ps (fun p hpm=>hp p (by simp [hpm]))
  refine ⟨by simp [zeE,h1],fun k i j v x hk hk'=>?_⟩
  cases k with
  | zero=>
   simp [zeE] at hk hk'
   obtain ⟨rfl,rfl⟩:=hk
   obtain ⟨rfl,rfl⟩:=hk'
   exact ⟨rfl,hp (n,y) (by simp)⟩
  | succ k=>exact h2 k i j v x (by simpa [zeE] using hk) (by simpa using hk')
theorem zhz {ps:Array (Nat×Operand)} {p:Nat×Operand} (hp:p∈ps.toList):p.2∈(ps.toList.map (·.2)).toArray:=by
 simp only [List.mem_toArray,List.mem_map]
 exact ⟨p,hp,rfl⟩
theorem zjx (hΓ:zbC P Γ) (I:InvH N C h ρ F M g a w) {t:TypeId} {ps:Array (Nat×Operand)} (ho:o.op = .build t ps) {T:TyD} (hT:tyOf Γ t=some T) {fs:List (Nat×TypeId)} (hd:T.d = .struct fs)
 {val:Operand→AV} (hv:∀ x,x∈o.op.operands→Rel h ρ (val x) (a.eval x)) {cs:List AV}
 (hl:zcA (zeros T.zero) (fun i=>match nthN i fs with
  | some (off,ft)=>match tyOf Γ ft with
   | some FT=>some (off,FT.size)
   | none=>none
  | none=>none) (zeE val ps.toList)=some cs):Good P N C h ρ F M g a o w (R.val (.agg cs)):=by
 have hTy:=hΓ t T hT
 obtain ⟨f,hu,hfs,_,_,hsz⟩:=hTy.zgy hd
 have hvr:=zgx (a:=a) (val:=val) (h:=h) (ρ:=ρ) ps.toList (fun p hp=>hv p.2 (by rw [ho];exact zhz hp))
 obtain ⟨us,h1,h2⟩:=zd7 (place':=fun i=>(f.map fun x=>(x.offset,P.cellsOf x.type))[i]?) (fun i q hq=>by
  cases hn:nthN i fs with
  | none=>simp [hn] at hq
  | some e=>
   obtain ⟨off,ft⟩:=e
   simp only [hn] at hq
   cases hft:tyOf Γ ft with
   | none=>simp [hft] at hq
   | some FT=>
    simp only [hft] at hq;cases hq
    have h3:=zfA hn
    rw [← hfs] at h3
    simp only [List.getElem?_map,Array.getElem?_toList,Option.map_eq_some_iff] at h3
    obtain ⟨fd,h4,h5⟩:=h3
    cases h5
    simp [h4,(hΓ _ FT hft).cellsOf]) hl (RelL.zeros h ρ T.zero) hvr.1 hvr.2
 have hm:(f.mapM fun f=>do pure (f.offset,← sizeOf f.type):Sem (Array (Nat×Nat))).run P w = .ok (f.map fun x=>(x.offset,P.cellsOf x.type)) w:=by
  rw [← Array.toArray_toList (xs:=f),List.mapM_toArray]
  simp only [Sem.run_map,zlx P w f.toList hsz,Result.andThen_ok,List.map_toArray]
 have hfill:Instr.fill (fun i=>(f.map fun x=>(x.offset,P.cellsOf x.type))[i]?) T.zero.toArray (ps.toList.map fun p=>(p.1,a.eval p.2))=some us.toArray:=h1
 refine Good.same I (x:=.agg us.toArray) (.inl ?_) rfl (.agg _ _ _ h2.1 h2.2)
 unfold execOp
 simp only [ho,Instr.build,Sem.run_bind,hTy.ze2 w,Result.andThen_ok,zbD hTy,run_underlying hu,hm,Array.toList_map,hfill,Sem.run_pure]
theorem zjP (hΓ:zbC P Γ) (I:InvH N C h ρ F M g a w) {t:TypeId} {ps:Array (Nat×Operand)} (ho:o.op = .build t ps) {T:TyD} (hT:tyOf Γ t=some T) {n:Nat} {e:TypeId} (hd:T.d = .array n e)
 {E:TyD} (hE:tyOf Γ e=some E) {val:Operand→AV} (hv:∀ x,x∈o.op.operands→Rel h ρ (val x) (a.eval x)) {cs:List AV}
 (hl:zcA (zeros T.zero) (fun i=>some (i * E.size,E.size)) (zeE val ps.toList)=some cs):Good P N C h ρ F M g a o w (R.val (.agg cs)):=by
 have hTy:=hΓ t T hT
 have hu:=hTy.zi4 hd
 have hvr:=zgx (a:=a) (val:=val) (h:=h) (ρ:=ρ) ps.toList (fun p hp=>hv p.2 (by rw [ho];exact zhz hp))
 obtain ⟨us,h1,h2⟩:=zd7 (place':=fun i=>some (i * E.size,E.size)) (fun i q hq=>hq) hl (RelL.zeros h ρ T.zero) hvr.1 hvr.2
 have hfill:Instr.fill (fun i=>some (i * E.size,E.size)) T.zero.toArray (ps.toList.map fun p=>(p.1,a.eval p.2))=some us.toArray:=h1
 refine Good.same I (x:=.agg us.toArray) (.inl ?_) rfl (.agg _ _ _ h2.1 h2.2)
 unfold execOp
 simp only [ho,Instr.build,Sem.run_bind,hTy.ze2 w,Result.andThen_ok,zbD hTy,run_underlying hu,(hΓ e E hE).zdx w,Array.toList_map,hfill,Sem.run_pure]
theorem zkd {sz n i:Nat} {cs:List AV} (hl:cs.length=n * sz) (hi:i<n):(elemAt sz cs i).length=sz:=by
 unfold elemAt
 have:i * sz+sz≤n * sz:=by
  calc i * sz+sz=(i+1) * sz:=by rw [Nat.add_mul,Nat.one_mul]
   _≤n * sz:=Nat.mul_le_mul_right _ hi
 simp [List.length_take,List.length_drop,hl];omega
theorem zii {sz i j:Nat} {cs:List AV} {c:AV} (hc:(elemAt sz cs i)[j]? = some c):j<sz∧cs[i * sz+j]? = some c:=by
 unfold elemAt at hc
 rw [List.getElem?_take] at hc
 split at hc
 · rename_i hj
   rw [List.getElem?_drop] at hc
   exact ⟨hj,hc⟩
 · cases hc
theorem zgY (hΓ:zbC P Γ) {t:TypeId} {n:Nat} {ps:Array (Nat×Operand)} {T:TyD} (hT:tyOf Γ t=some T) {e:TypeId} (hd:T.d = .slice e)
 {E:TyD} (hE:tyOf Γ e=some E) (hsz:n * E.size≤16777216) {val:Operand→AV} (hv:∀ p∈ps.toList,Rel h ρ (val p.2) (a.eval p.2)) {cs:List AV}
 (hl:zcA (repL (zeros E.zero) n) (fun i=>some (i * E.size,E.size)) (zeE val ps.toList)=some cs) :
 ∃ us:List Value,RelL h ρ cs us∧us.length=n * E.size∧(Instr.buildSlice t n (ps.map fun (i,x)=>(i,a.eval x))).run P w = .ok (.slice (some ⟨w.heap.size,0,none⟩) n n) (w.alloc (.cells us.toArray e)):=by
 have hEy:=hΓ e E hE
 have hu:=(hΓ t T hT).zbz hd
 have hvr:=zgx (a:=a) (val:=val) (h:=h) (ρ:=ρ) ps.toList hv
 obtain ⟨us,h1,h2⟩:=zd7 (place':=fun i=>some (i * E.size,E.size)) (fun i q hq=>hq) hl (RelL.made hEy h ρ n) hvr.1 hvr.2
 have hlen:cs.length=n * E.size:=by
  have:∀ {place:Nat→Option (Nat×Nat)} {qs:List (Nat×AV)} {zs cs:List AV},zcA zs place qs=some cs→cs.length=zs.length:=by
   intro place qs
   induction qs with
   | nil=>intro zs cs hq;simp [zcA] at hq;rw [hq]
   | cons q qs ih=>
    intro zs cs hq
    obtain ⟨i,v⟩:=q
    simp only [zcA] at hq
    split at hq
    · split at hq
      · cases hq
      · split at hq
        · split at hq
          · rename_i hy;rw [ih hq,(zgE hy).1]
          · cases hq
        · cases hq
      · cases hq
    · cases hq
  rw [this hl,ziR,zby,hEy.len]
 refine ⟨us,h2,by rw [h2.1,hlen],?_⟩
 have hfill:Instr.fill (fun i=>some (i * E.size,E.size)) (madeCells E.zero.toArray (n * E.size)) (ps.toList.map fun p=>(p.1,a.eval p.2))=some us.toArray:=by
  have:=h1
  rwa [Array.toArray_toList] at this
 have hng:¬ (16777216<n * E.size):=by omega
 have hng':¬ (n * E.size > 2 ^ 24):=by simpa using hng
 simp only [Instr.buildSlice,Sem.run_bind,run_underlying hu,Result.andThen_ok,hEy.zdx w]
 rw [if_neg hng']
 by_cases h0:n * E.size=0
 · rw [if_pos h0]
   have hz2:(Array.range (n * E.size)).map ((#[]:Array Value)[· % (#[]:Array Value).size]!)=madeCells E.zero.toArray (n * E.size):=by rw [h0];simp [madeCells]
   simp only [Sem.run_bind,Sem.run_pure,Result.andThen_ok,hz2,Array.toList_map,hfill,newRow,run_newObj,World.alloc_eq]
 · rw [if_neg h0]
   have hz2:(Array.range (n * E.size)).map (E.zero.toArray[· % E.zero.toArray.size]!)=madeCells E.zero.toArray (n * E.size):=rfl
   simp only [Sem.run_bind,Sem.run_pure,hEy.ze2 w,zbD hEy,Result.andThen_ok,hz2,Array.toList_map,hfill,newRow,run_newObj,World.alloc_eq]
theorem ziE (hΓ:zbC P Γ) (I:InvH N C h ρ F M g a w) {t:TypeId} {n:Nat} {ps:Array (Nat×Operand)} (ho:o.op = .buildSlice t n ps) {T:TyD} (hT:tyOf Γ t=some T) {e:TypeId} (hd:T.d = .slice e)
 {E:TyD} (hE:tyOf Γ e=some E) (hsz:n * E.size≤16777216) {val:Operand→AV} (hv:∀ x,x∈o.op.operands→Rel h ρ (val x) (a.eval x)) {cs:List AV}
 (hl:zcA (repL (zeros E.zero) n) (fun i=>some (i * E.size,E.size)) (zeE val ps.toList)=some cs) (hcl:zlo cs=true) (hsi:singles cs=true) (hn:n≤16777216) :
 Good P N C h ρ F M g a o w (R.val (.ro E.size n (elemAt E.size cs))):=by
 obtain ⟨us,h1,h2,h3⟩:=zgY (w:=w) hΓ hT hd hE hsz (fun p hp=>hv p.2 (by rw [ho];exact zhz hp)) hl
 have I':=I.zrk (.cells us.toArray e)
 have hlen:cs.length=n * E.size:=by rw [← h1.1,h2]
 have hc:∀ k,hcell (upd h w.heap.size (some (.cells us.toArray e))) (some ⟨w.heap.size,0,none⟩) k=us[k]? := by
  intro k
  simp [hcell,Addr.add_lit,cellOf,zaf]
 have hLe:Le h (upd h w.heap.size (some (.cells us.toArray e))):=Le.of fun b o' hb=>by
  have hne:b≠w.heap.size:=by
   rintro rfl
   have:=I.hlt hb;omega
  rw [zae _ _ hne];exact hb
 refine ⟨.slice (some ⟨w.heap.size,0,none⟩) n n,_,_,ρ,.inl ?_,I',?_⟩
 · unfold execOp
   simp only [ho,Sem.run_bind,h3,Result.andThen_ok,Sem.run_pure]
 · refine .ro _ _ _ _ _ _ (fun e=>by cases e) ⟨Nat.le_refl _,by unfold maxLen;omega⟩ (fun i hi=>zkd hlen hi) (fun i j hi hj=>?_) (fun k v hk hv=>by rw [hc] at hv;exact h1.ones hsi v (List.mem_of_getElem? hv)) (fun i j c v hi hj hv=>?_)
   · rw [hc]
     have:i * E.size+j<us.length:=by
      rw [h2]
      calc i * E.size+j<i * E.size+E.size:=by omega
       _=(i+1) * E.size:=by rw [Nat.add_mul,Nat.one_mul]
       _≤n * E.size:=Nat.mul_le_mul_right _ hi
     simp [this]
   · rw [hc] at hv
     obtain ⟨_,hj'⟩:=zii hj
     exact ((h1.2 _ c v hj' hv).zdO (ze6 (zhq hcl) hj')).heap hLe
theorem zbN.zmT {d n sz:Nat} {us:List Value} {e:TypeId} {cap:Nat} {cur:Array Value} {el:Nat→List AV} (hcap:n≤cap) (hmax:cap≤maxLen) (hcur:cur.size=cap * sz) (hus:cur.toList.take (n * sz)=us)
 (hlen:us.length=n * sz) (hel:∀ i,i<n→(el i).length=sz) (hones:∀ x,x∈us→x.oneCell'=true)
 (H:∀ (i j:Nat) (c:AV) (x:Value),i<n→(el i)[j]? = some c→us[i * sz+j]? = some x→Rel h ρ0 c x) :
 zbN h (upd ρ d (some (.sl n sz (.slice (some ⟨w.heap.size,0,none⟩) n cap)))) d (.buf e sz n el) (w.alloc (.cells cur e)):=
 ⟨_,us,zaf _ _ _,⟨hlen,.inr ⟨w.heap.size,cap,cur,rfl,Nat.zero_le _,heap_alloc_new w _,hcap,hmax,hcur,hus⟩⟩,hel,hones,H⟩
theorem zih (hΓ:zbC P Γ) (I:InvH N C h ρ F M g a w) {t:TypeId} {n:Nat} {ps:Array (Nat×Operand)} (ho:o.op = .buildSlice t n ps) {T:TyD} (hT:tyOf Γ t=some T) {e:TypeId} (hd:T.d = .slice e)
 {E:TyD} (hE:tyOf Γ e=some E) (hsz:n * E.size≤16777216) (hn:n≤16777216) {val:Operand→AV} (hv:∀ x,x∈o.op.operands→Rel h ρ (val x) (a.eval x)) {cs:List AV}
 (hl:zcA (repL (zeros E.zero) n) (fun i=>some (i * E.size,E.size)) (zeE val ps.toList)=some cs) (hcl:zlo cs=true) (hsi:singles cs=true) {d:Nat} (hdn:M d=none) :
 Good P N C h ρ F M g a o w ⟨.buf d n,[d],[(d,.buf e E.size n (elemAt E.size cs))],none,none⟩:=by
 obtain ⟨us,h1,h2,h3⟩:=zgY (w:=w) hΓ hT hd hE hsz (fun p hp=>hv p.2 (by rw [ho];exact zhz hp)) hl
 have hlen:cs.length=n * E.size:=by rw [← h1.1,h2]
 have I':=I.zeZ hdn (.cells us.toArray e) (.sl n E.size (.slice (some ⟨w.heap.size,0,none⟩) n n)) (.buf e E.size n (elemAt E.size cs)) (fun b hb=>(Option.some.inj hb).symm)
  (zbN.zmT (Nat.le_refl n) (by unfold maxLen;omega) (by simpa using h2) (by rw [← h2];simp) h2 (fun i hi=>zkd hlen hi) (h1.ones hsi)
   (fun i j c x hi hj hx=>(h1.2 _ c x (zii hj).2 hx).zdO (ze6 (zhq hcl) (zii hj).2)))
 refine ⟨.slice (some ⟨w.heap.size,0,none⟩) n n,_,_,_,.inl ?_,I',.buf _ _ _ _ _ _ _ (zaf _ _ _) (Nat.le_refl _) rfl (fun _=>rfl)⟩
 unfold execOp
 simp only [ho,Sem.run_bind,h3,Result.andThen_ok,Sem.run_pure]
end
end Go.Av
end
/- The evaluator is right, part 4: stores, numbers, structs, slices. -/
section
set_option linter.all false
namespace Go.Av
theorem zf3 (L vs:List Value) (o:Nat) (h:o+vs.length≤L.length) (k:Nat) :
 (L.take o++vs++L.drop (o+vs.length))[k]? = if o≤k∧k<o+vs.length then vs[k - o]? else L[k]? := by
 rw [List.append_assoc]
 by_cases h1:k<o
 · rw [List.getElem?_append_left (by simp;omega),List.getElem?_take,if_pos h1,if_neg (by omega)]
 · rw [List.getElem?_append_right (by simp;omega)]
   have hm:(L.take o).length=o:=by simp;omega
   rw [hm]
   by_cases h2:k<o+vs.length
   · rw [List.getElem?_append_left (by omega),if_pos (by omega)]
   · rw [List.getElem?_append_right (by omega),List.getElem?_drop,if_neg (by omega)]
     congr 1;omega
theorem zi7 (L vs:List Value) (o:Nat) (h:o+vs.length≤L.length):(L.take o++vs++L.drop (o+vs.length)).length=L.length:=by
 simp;omega
section
variable {P:Program} {N:Nat} {C:Ctx} {h:Hp} {ρ:Rho} {F:Fr} {M:Mm} {g:Nat} {a:Act} {w:World} {Γ:Tys} {mg:Mm} {o:Oper}
theorem zit {t:TypeId} {T:TyD} (hT:TyOk P t T) {x:Value} {vs:List Value} (hx:x.cells=vs.toArray) (hl:vs.length=T.size) (h1:∀ v∈vs,v.oneCell'=true) {b off:Nat} {cur:Array Value} {ty:TypeId}
 (hg:w.heap[b]? = some (.cells cur ty (0,0))) (hfit:off+vs.length≤cur.size) :
 (storeVar t ⟨b,off,none⟩ x).run P w = .ok () (w.setRow b (cur.toList.take off++vs++cur.toList.drop (off+vs.length)).toArray):=by
 have hst:=run_storeCells_at P b off ty vs 0 cur w hg (by simpa using hfit) h1
 simp only [Nat.add_zero] at hst
 have hne:¬ (x.cells.size≠T.size):=by simp [hx,hl]
 simp only [storeVar,Sem.run_bind,hT.zdx w,Result.andThen_ok]
 rw [if_neg hne,hx,List.toList_toArray,hst]
theorem zmI (hΓ:zbC P Γ) (I:InvH N C h ρ F M g a w) {t:TypeId} {p x:Operand} (ho:o.op = .store t p x) {T:TyD} (hT:tyOf Γ t=some T) {v:AV} (hv:Rel h ρ v (a.eval x)) {xs:List AV} (hx:zgl v=some xs)
 (hl:xs.length=T.size) {id off:Nat} (hp:Rel h ρ (.lp id off) (a.eval p)) {cs cs':List AV} (hm:M id=some (.cells cs)) (hlay:layN off xs cs=some cs') (hne:xs≠[]) :
 Good P N C h ρ F M g a o w ⟨.any,[id],[(id,.cells cs')],none,none⟩:=by
 obtain ⟨ys,h1,h2,h3⟩:=zeW hx hv
 obtain ⟨b,vs,ty,e1,e2,e3,e4⟩:=I.blk id _ hm
 obtain ⟨l1,l2,l3⟩:=zgE hlay
 rw [if_neg hne] at l2
 have hfit:off+ys.length≤vs.length:=by rw [h2.1,e3];simpa using l2
 have hrun:=zit (w:=w) (hΓ t T hT) h1 (by rw [h2.1,hl]) h3 (off:=off) e2 (by simpa using hfit)
 generalize hp':a.eval p=pv at hp
 cases hp with
 | lp _ _ _ b' hb=>
  rw [e1] at hb;cases hb
  refine ⟨undef,w.setRow b (vs.take off++ys++vs.drop (off+ys.length)).toArray,h,ρ,.inr ⟨?_,rfl⟩,I.turn e1 (.cells cs') rfl rfl rfl (by simp) (fun k hk=>setRow_other w b k _ hk) ?_,.any _ _⟩
  · unfold execOp
    simp only [ho,Instr.storeAt,hp',Instr.sureAddr,Sem.run_bind,Sem.run_pure,Result.andThen_ok,hrun]
  · refine ⟨b,_,ty,e1,setRow_heap w b _ _ ty _ e2,by rw [zi7 _ _ _ hfit,e3,l1],fun i c u hc hu=>?_⟩
    rw [zf3 _ _ _ hfit] at hu
    rw [l3 i] at hc
    by_cases hi:off≤i∧i<off+ys.length
    · rw [if_pos hi] at hu
      rw [if_pos (by rw [← h2.1];exact hi)] at hc
      exact h2.2 _ c u hc hu
    · rw [if_neg hi] at hu
      rw [if_neg (by rw [← h2.1];exact hi)] at hc
      exact e4 i c u hc hu
theorem zmJ (hΓ:zbC P Γ) (I:InvH N C h ρ F M g a w) {t:TypeId} {p x:Operand} (ho:o.op = .store t p x) {T:TyD} (hT:tyOf Γ t=some T) {v:AV} (hv:Rel h ρ v (a.eval x)) {xs:List AV} (hx:zgl v=some xs)
 (hl:xs.length=T.size) (hcl:zlo xs=true) {id n i off:Nat} (hp:Rel h ρ (.ep id n i off) (a.eval p)) {ty sz n':Nat} {e:Nat→List AV} {es:List AV} (hm:M id=some (.buf ty sz n' e)) (hlay0:layE off xs sz (e i)=some es) (hne:xs≠[])
 (hn:n=n'∧i<n'):Good P N C h ρ F M g a o w ⟨.any,[id],[(id,.buf ty sz n' (fun k=>if k=i then es else e k))],some (n=n'∧i<n'),none⟩:=by
 obtain ⟨rfl,hin⟩:=hn
 obtain ⟨ys,h1,h2,h3⟩:=zeW hx hv
 obtain ⟨v0,us,e1,e2,e3,e5,e4⟩:=I.blk id _ hm
 have hlay:=zoV hlay0 (e3 i hin)
 obtain ⟨l1,l2,l3⟩:=zgE hlay
 rw [if_neg hne,e3 i hin] at l2
 generalize hp':a.eval p=pv at hp
 cases hp with
 | ep _ _ _ _ _ n2 sz2 _ v2 hb hle _ he=>
  rw [e1] at hb;cases hb
  obtain ⟨b,cap,rfl,rfl⟩:=he rfl
  obtain ⟨q1,q2⟩:=e2
  rcases q2 with ⟨q2,_⟩|⟨b',cap',cur,q2,_,q3,q4,q5,q6,q7⟩
  · cases q2
  cases q2
  have hrow:i * sz+sz≤n * sz:=by
   calc i * sz+sz=(i+1) * sz:=by rw [Nat.add_mul,Nat.one_mul]
    _≤n * sz:=Nat.mul_le_mul_right _ hin
  have hcapsz:n * sz≤cap * sz:=Nat.mul_le_mul_right _ q4
  have hys:ys.length=xs.length:=h2.1
  have hfit:i * sz+off+ys.length≤cur.toList.length:=by simp [q6];omega
  have hrun:=zit (w:=w) (hΓ t T hT) h1 (by rw [h2.1,hl]) h3 (off:=i * sz+off) q3 (by simpa using hfit)
  obtain ⟨L',hL'⟩:∃ L',cur.toList.take (i * sz+off)++ys++cur.toList.drop (i * sz+off+ys.length)=L':=⟨_,rfl⟩
  have hg1:∀ k,L'[k]? = if i * sz+off≤k∧k<i * sz+off+ys.length then ys[k - (i * sz+off)]? else cur.toList[k]? := fun k=>by rw [← hL'];exact zf3 _ _ _ hfit k
  have hg2:L'.length=cap * sz:=by rw [← hL',zi7 _ _ _ hfit];simpa using q6
  rw [hL'] at hrun
  have hgrown:w.grownBy (w.setRow b L'.toArray) (Value.ownBlock (.slice (some ⟨b,0,none⟩) n cap)):=
   ⟨rfl,rfl,rfl,by simp,fun k _ hk=>setRow_other w b k _ (fun ee=>hk (by simp [Value.ownBlock,ee]))⟩
  have hus:∀ k,k<n * sz→us[k]? = cur.toList[k]? := fun k hk=>by rw [← q7,List.getElem?_take,if_pos hk]
  refine ⟨undef,_,h,_,.inr ⟨?_,rfl⟩,I.zoi e1 _ (.inl ⟨rfl,rfl⟩) hgrown (fun k hk=>.inl hk) ?_,.any _ _⟩
  · unfold execOp
    simp only [ho,Instr.storeAt,hp',Instr.sureAddr,Sem.run_bind,Sem.run_pure,Result.andThen_ok,hrun]
  · refine ⟨_,L'.take (n * sz),zaf _ _ _,⟨by rw [List.length_take,hg2];omega,.inr ⟨b,cap,_,rfl,Nat.zero_le _,setRow_heap w b _ _ ty _ q3,q4,q5,by simpa using hg2,by simp⟩⟩,fun k hk=>?_,fun u hu=>?_,fun k j c u hk hc hu=>?_⟩
    · show (if k=i then es else e k).length=sz
      by_cases hki:k=i
      · rw [if_pos hki,l1,e3 i hin]
      · rw [if_neg hki];exact e3 k hk
    · obtain ⟨k,hk,rfl⟩:=List.getElem_of_mem hu
      have hku:k<n * sz:=by simp at hk;omega
      have hk':L'[k]? = some (L'.take (n * sz))[k]:=by
       rw [List.getElem_take];exact List.getElem?_eq_getElem (by simp at hk;omega)
      rw [hg1] at hk'
      by_cases hi:i * sz+off≤k∧k<i * sz+off+ys.length
      · rw [if_pos hi] at hk';exact h3 _ (List.mem_of_getElem? hk')
      · rw [if_neg hi,← hus k hku] at hk';exact e5 _ (List.mem_of_getElem? hk')
    · replace hc:(if k=i then es else e k)[j]? = some c:=hc
      rw [List.getElem?_take] at hu
      split at hu
      rotate_left
      · cases hu
      rename_i hku
      rw [hg1] at hu
      by_cases hki:k=i
      · subst hki
        rw [if_pos rfl,l3 j] at hc
        by_cases hj:off≤j∧j<off+xs.length
        · rw [if_pos hj] at hc
          rw [if_pos (by omega),show k * sz+j - (k * sz+off)=j - off by omega] at hu
          exact (h2.2 _ c u hc hu).zdO (ze6 (zhq hcl) hc)
        · rw [if_neg hj] at hc
          rw [if_neg (by omega)] at hu
          exact e4 k j c u hin hc (by rw [hus _ hku];exact hu)
      · rw [if_neg hki] at hc
        have hj:j<sz:=by rw [← e3 k hk];exact (List.getElem?_eq_some_iff.1 hc).1
        have hout:¬ (i * sz+off≤k * sz+j∧k * sz+j<i * sz+off+ys.length):=by
         rintro ⟨p1,p2⟩
         rcases Nat.lt_or_gt_of_ne hki with hlt|hgt
         · have:k * sz+sz≤i * sz:=by
            calc k * sz+sz=(k+1) * sz:=by rw [Nat.add_mul,Nat.one_mul]
             _≤i * sz:=Nat.mul_le_mul_right _ hlt
           omega
         · have:i * sz+sz≤k * sz:=by
            calc i * sz+sz=(i+1) * sz:=by rw [Nat.add_mul,Nat.one_mul]
             _≤k * sz:=Nat.mul_le_mul_right _ hgt
           omega
        rw [if_neg hout] at hu
        exact e4 k j c u hk hc (by rw [hus _ hku];exact hu)
theorem zd3 {n:Int} (hn:inI n):IntKind.i64.wrap n=n:=IntWalk.i64_in n hn
theorem zgw (n:Int):IntKind.i64.wrap n=zku n:=by
 unfold IntKind.wrap zku
 simp only [IntKind.bits,IntKind.signed,Bool.true_and,decide_eq_true_eq]
 have e1:(2:Int) ^ 64=18446744073709551616:=by decide
 have e2:(2:Int) ^ (64 - 1)=9223372036854775808:=by decide
 simp only [e1,e2]
 by_cases h:9223372036854775808≤n % 18446744073709551616
 · rw [if_pos h,if_pos (by simpa using h)]
 · rw [if_neg h,if_neg (by simpa using h)]
theorem zmc {x y:Int} (hx:0≤x) (hy:0≤y) (hx':inI x) (hy':inI y):IntKind.i64.wrap ((BitVec.ofInt 64 x &&& BitVec.ofInt 64 y).toNat:Int)=((x.toNat &&& y.toNat:Nat):Int):=by
 obtain ⟨m,rfl⟩:=Int.eq_ofNat_of_zero_le hx
 obtain ⟨n,rfl⟩:=Int.eq_ofNat_of_zero_le hy
 unfold inI at hx' hy'
 have hm:m<2 ^ 63:=by omega
 have hn:n<2 ^ 63:=by omega
 have h1:(BitVec.ofInt 64 (m:Int)).toNat=m:=by rw [BitVec.ofInt_natCast,BitVec.toNat_ofNat];exact Nat.mod_eq_of_lt (by omega)
 have h2:(BitVec.ofInt 64 (n:Int)).toNat=n:=by rw [BitVec.ofInt_natCast,BitVec.toNat_ofNat];exact Nat.mod_eq_of_lt (by omega)
 rw [BitVec.toNat_and,h1,h2,Int.toNat_natCast,Int.toNat_natCast]
 have:m &&& n<2 ^ 63:=Nat.and_lt_two_pow _ hn
 exact zd3 (by unfold inI;omega)
theorem zmU {x y:Int} (hx:0≤x) (hy:0≤y) (hx':inI x) (hy':inI y):IntKind.i64.wrap ((BitVec.ofInt 64 x ||| BitVec.ofInt 64 y).toNat:Int)=((x.toNat ||| y.toNat:Nat):Int):=by
 obtain ⟨m,rfl⟩:=Int.eq_ofNat_of_zero_le hx
 obtain ⟨n,rfl⟩:=Int.eq_ofNat_of_zero_le hy
 unfold inI at hx' hy'
 have hm:m<2 ^ 63:=by omega
 have hn:n<2 ^ 63:=by omega
 have h1:(BitVec.ofInt 64 (m:Int)).toNat=m:=by rw [BitVec.ofInt_natCast,BitVec.toNat_ofNat];exact Nat.mod_eq_of_lt (by omega)
 have h2:(BitVec.ofInt 64 (n:Int)).toNat=n:=by rw [BitVec.ofInt_natCast,BitVec.toNat_ofNat];exact Nat.mod_eq_of_lt (by omega)
 rw [BitVec.toNat_or,h1,h2,Int.toNat_natCast,Int.toNat_natCast]
 have:m ||| n<2 ^ 63:=Nat.or_lt_two_pow hm hn
 exact zd3 (by unfold inI;omega)
theorem zod (w:World) {op:BinOp} {t:TypeId} {x y:Int} {r:R} (hr:binI op x y=some r) (hc:∀ q,r.cs=some q→q) :
 r.wr=[]∧∃ v,(binOp op t (.int .i64 x) (.int .i64 y)).run P w = .ok v w∧∀ (h:Hp) (ρ:Rho),Rel h ρ r.v v:=by
 cases op <;> simp only [binI,cmpI,Option.some.injEq] at hr <;> (try (cases hr;done)) <;> subst hr <;> refine ⟨rfl,?_⟩
 case add=>exact ⟨_,by simp only [binOp_add,Op.intArith,Sem.run_pure];rw [zd3 (hc _ rfl)],fun _ _=>.int _ _ _⟩
 case sub=>exact ⟨_,by simp only [binOp_sub,Op.intArith,Sem.run_pure];rw [zd3 (hc _ rfl)],fun _ _=>.int _ _ _⟩
 case mul=>exact ⟨_,by simp only [binOp_mul,Op.intArith,Sem.run_pure];rw [zd3 (hc _ rfl)],fun _ _=>.int _ _ _⟩
 case quo=>
  obtain ⟨h1,h2⟩:=hc _ rfl
  exact ⟨_,by simp only [binOp_quo,Op.intDiv];rw [if_neg h1];simp only [Sem.run_pure];rw [zd3 h2],fun _ _=>.int _ _ _⟩
 case rem=>
  have h1:=hc _ rfl
  exact ⟨_,by simp only [binOp_rem,Op.intDiv];rw [if_neg h1];simp only [Sem.run_pure],fun _ _=>.int _ _ _⟩
 case shl=>
  obtain ⟨h1,h2,h3⟩:=hc _ rfl
  refine ⟨_,?_,fun _ _=>.int _ _ _⟩
  simp only [binOp_shl,Op.shift]
  rw [if_neg (by omega)]
  have:min y.toNat IntKind.i64.bits=y.toNat:=by simp [IntKind.bits];omega
  simp only [this,Sem.run_pure]
  rw [zd3 h3]
 case shr=>
  obtain ⟨h1,h2⟩:=hc _ rfl
  refine ⟨_,?_,fun _ _=>.int _ _ _⟩
  simp only [binOp_shr,Op.shift]
  rw [if_neg (by omega)]
  have:min y.toNat IntKind.i64.bits=y.toNat:=by simp [IntKind.bits];omega
  simp only [this,Sem.run_pure]
 case and=>
  obtain ⟨h1,h2,h3,h4⟩:=hc _ rfl
  refine ⟨_,?_,fun _ _=>.int _ _ _⟩
  simp only [binOp_and,Op.intBits,Sem.run_pure]
  have:=zmc h1 h2 h3 h4
  rw [show IntKind.i64.bits=64 from rfl,this]
 case or=>
  obtain ⟨h1,h2,h3,h4⟩:=hc _ rfl
  refine ⟨_,?_,fun _ _=>.int _ _ _⟩
  simp only [binOp_or,Op.intBits,Sem.run_pure]
  have:=zmU h1 h2 h3 h4
  rw [show IntKind.i64.bits=64 from rfl,this]
 case eql=>exact ⟨_,by simp only [binOp_eql,Sem.run_pure];rfl,fun _ _=>.bool _ _⟩
 case neq=>
  refine ⟨.bool (!decide (x=y)),?_,fun _ _=>.bool _ _⟩
  simp only [binOp_neq,Sem.run_pure];rfl
 case lss=>exact ⟨_,by simp only [binOp_lss,Sem.run_pure],fun _ _=>.bool _ _⟩
 case leq=>exact ⟨_,by simp only [binOp_leq,Sem.run_pure],fun _ _=>.bool _ _⟩
 case gtr=>exact ⟨_,by simp only [binOp_gtr,Sem.run_pure],fun _ _=>.bool _ _⟩
 case geq=>exact ⟨_,by simp only [binOp_geq,Sem.run_pure],fun _ _=>.bool _ _⟩
end
end Go.Av
end
/- The evaluator is right, part 5: '=='. -/
section
set_option linter.all false
namespace Go.Av
section
variable {P:Program} {N:Nat} {C:Ctx} {h:Hp} {ρ:Rho} {F:Fr} {M:Mm} {g:Nat} {a:Act} {w:World} {Γ:Tys} {mg:Mm} {o:Oper}
def TyD.val (T:TyD) (vs:List Value):Value:=match T.d.agg with
 | true=>.agg vs.toArray
 | false=>vs.headD undef
theorem znE {off n:Nat} {cs r:List AV} (hc:cutN off n cs=some r):r=(cs.drop off).take n∧r.length=n:=by
 unfold cutN at hc
 cases hd:zdJ off cs with
 | none=>rw [hd] at hc;cases hc
 | some q=>
  rw [hd] at hc
  obtain ⟨rfl,_⟩:=zc3 hd
  obtain ⟨rfl,h2⟩:=zhs hc
  exact ⟨rfl,by simp;simp at h2;omega⟩
theorem RelL.cut {xs:List AV} {vs:List Value} (H:RelL h ρ xs vs) (off n:Nat):RelL h ρ ((xs.drop off).take n) ((vs.drop off).take n):=by
 refine ⟨by simp [H.1],fun i c v hc hv=>?_⟩
 rw [List.getElem?_take] at hc hv
 split at hc
 · rename_i hi
   rw [if_pos hi,List.getElem?_drop] at hv
   rw [List.getElem?_drop] at hc
   exact H.2 _ c v hc hv
 · cases hc
theorem ziP {t:TypeId} {T:TyD} (hT:TyOk P t T) {vs:List Value} {off:Nat} (hl:((vs.drop off).take T.size).length=T.size) (w:World) :
 (part t vs.toArray off).run P w = .ok (T.val ((vs.drop off).take T.size)) w:=by
 unfold TyD.val
 cases ha:T.d.agg with
 | true=>
  simp only [part,Sem.run_bind,hT.isAgg w,ha,Result.andThen_ok,if_true,hT.zdx w,Sem.run_pure]
  congr 2
  apply Array.ext'
  simp
 | false=>
  have h1:=hT.pos ha
  rw [h1] at hl ⊢
  have hlt:off<vs.length:=by simp at hl;omega
  have hd:vs.drop off=vs[off]::vs.drop (off+1):=List.drop_eq_getElem_cons hlt
  simp only [part,Sem.run_bind,hT.isAgg w,ha,Result.andThen_ok]
  rw [if_neg (by simp)]
  have hg:vs.toArray[off]? = some vs[off]:=by simp [hlt]
  simp only [hg,hd,List.take_succ_cons,List.take_zero,List.headD_cons,Sem.run_pure]
theorem zj9 (hΓ:zbC P Γ) {eq:TypeId→List AV→List AV→Option Bool} {d:Nat} {w:World}
 (heq:∀ t xs ys c,eq t xs ys=some c→∀ T,tyOf Γ t=some T→∀ vs us,RelL h ρ xs vs→RelL h ρ ys us →
  (Op.equalIn d t (T.val vs) (T.val us)).run P w = .ok c w) :
 ∀ (f : List Field) (fs : List (Nat × TypeId)), f.map (fun x => (x.offset, x.type)) = fs → (∀ x ∈ f, x.name ≠ "_") → ∀ {xs ys : List AV} {c : Bool}, eqFs Γ eq fs xs ys = some c →
  ∀ {vs us:List Value},RelL h ρ xs vs→RelL h ρ ys us→(Op.eqFields d vs.toArray us.toArray f).run P w = .ok c w
 | [],_,rfl,_,xs,ys,c,hc,vs,us,_,_=>by simp [eqFs] at hc;subst hc;rfl
 | x::f,_,rfl,hn,xs,ys,c,hc,vs,us,hx,hy=>by
  simp only [List.map_cons,eqFs] at hc
  cases hft:tyOf Γ x.type with
  | none=>rw [hft] at hc;cases hc
  | some FT=>
   rw [hft] at hc
   simp only [] at hc
   cases hcx:cutN x.offset FT.size xs with
   | none=>rw [hcx] at hc;cases hc
   | some p=>
    cases hcy:cutN x.offset FT.size ys with
    | none=>rw [hcx,hcy] at hc;cases hc
    | some q=>
     rw [hcx,hcy] at hc
     simp only [] at hc
     cases he:eq x.type p q with
     | none=>rw [he] at hc;cases hc
     | some b=>
      rw [he] at hc
      obtain ⟨rfl,l1⟩:=znE hcx
      obtain ⟨rfl,l2⟩:=znE hcy
      have r1:=hx.cut x.offset FT.size
      have r2:=hy.cut x.offset FT.size
      have hTy:=hΓ _ FT hft
      have q1:=ziP hTy (vs:=vs) (off:=x.offset) (by rw [r1.1];exact l1) w
      have q2:=ziP hTy (vs:=us) (off:=x.offset) (by rw [r2.1];exact l2) w
      have q3:=heq _ _ _ _ he FT hft _ _ r1 r2
      have hne : x.name ≠ "_" := hn x (by simp)
      simp only [Op.eqFields]
      rw [if_pos hne]
      simp only [Sem.run_bind,q1,q2,q3,Result.andThen_ok]
      cases f with
      | nil=>
       simp at hc;subst hc
       cases b <;> simp [Op.eqFields]
      | cons y f=>
       simp only [List.map_cons] at hc
       cases hr:eqFs Γ eq ((y.offset,y.type)::f.map fun x=>(x.offset,x.type)) xs ys with
       | none=>rw [hr] at hc;cases hc
       | some r=>
        rw [hr] at hc;cases hc
        have ih':=zj9 hΓ heq (y::f) _ rfl (fun z hz=>hn z (by simp [hz])) hr hx hy
        cases b
        · simp
        · simp [ih']
theorem zgI (hΓ:zbC P Γ) (w:World):∀ (fuel:Nat) (t:TypeId) (xs ys:List AV) (c:Bool),eqTy Γ fuel t xs ys=some c→∀ T,tyOf Γ t=some T→∀ d,fuel≤d →
 (∀ vs us,RelL h ρ xs vs→RelL h ρ ys us→(Op.equalIn d t (T.val vs) (T.val us)).run P w = .ok c w)∧P.eqGuardType d t=false
 | 0,_,_,_,_,hc,_,_,_,_=>by simp [eqTy] at hc
 | fuel+1,t,xs,ys,c,hc,T,hT,d,hd=>by
  have hTy:=hΓ t T hT
  obtain ⟨d,rfl⟩:∃ e,d=e+1:=⟨d - 1,by omega⟩
  simp only [eqTy,hT] at hc
  cases hk:T.d <;> rw [hk] at hc <;> (try (cases hc;done))
  case int k=>
   cases k <;> (try (cases hc;done))
   have hu:=hTy.ze0 hk
   refine ⟨fun vs us hx hy=>?_,by simp [Program.eqGuardType,hu]⟩
   simp only [] at hc
   split at hc
   · rename_i xa _ xb _ _ _
     cases hc
     obtain ⟨v,r,rfl,hv,_⟩:=hx.zdP
     obtain ⟨v',r',rfl,hv',_⟩:=hy.zdP
     cases hv;cases hv'
     simp only [TyD.val,hk,Ds.agg,List.headD]
     rw [run_equalIn_int w d t .i64 .i64 _ _ hu];rfl
   · cases hc
  case bool=>
   have hu:=hTy.zmZ hk
   refine ⟨fun vs us hx hy=>?_,by simp [Program.eqGuardType,hu]⟩
   simp only [] at hc
   split at hc
   · cases hc
     obtain ⟨v,r,rfl,hv,_⟩:=hx.zdP
     obtain ⟨v',r',rfl,hv',_⟩:=hy.zdP
     cases hv;cases hv'
     simp only [TyD.val,hk,Ds.agg,List.headD]
     rw [run_equalIn_bool' w d t _ _ hu]
   · cases hc
  case struct fs=>
   obtain ⟨f,hu,hfs,hnm,hst,_⟩:=hTy.zgy hk
   simp only [] at hc
   refine ⟨fun vs us hx hy=>?_,?_⟩
   · have hfo:P.fieldsOf t=f:=by simp [Program.fieldsOf,hu]
     simp only [TyD.val,hk,Ds.agg]
     rw [run_equalIn_struct w d t _ _ (by rw [hfo];exact hu) hst,hfo]
     exact zj9 hΓ (fun t' xs' ys' c' hc' T' hT' vs' us' a b=>(zgI hΓ w fuel t' xs' ys' c' hc' T' hT' d (by omega)).1 vs' us' a b) f.toList fs hfs hnm hc hx hy
   · have hall:∀ (f:List Field) (fs:List (Nat×TypeId)),f.map (fun x=>(x.offset,x.type))=fs→∀ {xs ys c},eqFs Γ (eqTy Γ fuel) fs xs ys=some c→∀ x∈f,P.eqGuardType d x.type=false:=by
      intro f
      induction f with
      | nil=>intro _ _ _ _ _ _ x hx;cases hx
      | cons x f ih=>
       rintro _ rfl xs ys c hc z hz
       simp only [List.map_cons,eqFs] at hc
       cases hft:tyOf Γ x.type with
       | none=>rw [hft] at hc;cases hc
       | some FT=>
        rw [hft] at hc
        simp only [] at hc
        split at hc
        · split at hc
          · rename_i he
            rcases List.mem_cons.1 hz with rfl|hz
            · exact (zgI hΓ w fuel _ _ _ _ he FT hft d (by omega)).2
            · cases f with
              | nil=>cases hz
              | cons y f=>
               simp only [List.map_cons] at hc
               split at hc
               · rename_i hr;exact ih _ (by simp) hr z hz
               · cases hc
          · cases hc
        · cases hc
     simp only [Program.eqGuardType,hu]
     rw [← Array.any_toList,List.any_eq_false]
     intro x hx
     simp [hall f.toList fs hfs hc x hx]
theorem ziM {n:Int} (hn:inU n):IntKind.u64.wrap n=n:=by
 obtain ⟨h1,h2⟩:=hn
 simp only [IntKind.wrap,IntKind.signed,IntKind.bits]
 simp
 omega
theorem zmb {x y:Int} (hx:inU x) (hy:inU y):IntKind.u64.wrap ((BitVec.ofInt 64 x &&& BitVec.ofInt 64 y).toNat:Int)=((x.toNat &&& y.toNat:Nat):Int):=by
 obtain ⟨h1,h2⟩:=hx
 obtain ⟨h3,h4⟩:=hy
 obtain ⟨m,rfl⟩:=Int.eq_ofNat_of_zero_le h1
 obtain ⟨n,rfl⟩:=Int.eq_ofNat_of_zero_le h3
 have hm:m<2 ^ 64:=by omega
 have hn:n<2 ^ 64:=by omega
 have e1:(BitVec.ofInt 64 (m:Int)).toNat=m:=by rw [BitVec.ofInt_natCast,BitVec.toNat_ofNat];exact Nat.mod_eq_of_lt hm
 have e2:(BitVec.ofInt 64 (n:Int)).toNat=n:=by rw [BitVec.ofInt_natCast,BitVec.toNat_ofNat];exact Nat.mod_eq_of_lt hn
 rw [BitVec.toNat_and,e1,e2,Int.toNat_natCast,Int.toNat_natCast]
 have:m &&& n<2 ^ 64:=Nat.and_lt_two_pow _ hn
 exact ziM ⟨by omega,by omega⟩
theorem zoc (w:World) {op:BinOp} {t:TypeId} {x y:Int} {r:R} (hr:binU op x y=some r) (hc:∀ q,r.cs=some q→q) :
 r.wr=[]∧∃ v,(binOp op t (.int .u64 x) (.int .u64 y)).run P w = .ok v w∧∀ (h:Hp) (ρ:Rho),Rel h ρ r.v v:=by
 cases op <;> simp only [binU,cmpI,Option.some.injEq] at hr <;> (try (cases hr;done)) <;> subst hr <;> refine ⟨rfl,?_⟩
 case add=>exact ⟨_,by simp only [binOp_add,Op.intArith,Sem.run_pure];rw [ziM (hc _ rfl)],fun _ _=>.int _ _ _⟩
 case mul=>exact ⟨_,by simp only [binOp_mul,Op.intArith,Sem.run_pure];rw [ziM (hc _ rfl)],fun _ _=>.int _ _ _⟩
 case shr=>
  obtain ⟨h1,h2⟩:=hc _ rfl
  refine ⟨_,?_,fun _ _=>.int _ _ _⟩
  simp only [binOp_shr,Op.shift]
  rw [if_neg (by omega)]
  have:min y.toNat IntKind.u64.bits=y.toNat:=by simp [IntKind.bits];omega
  simp only [this,Sem.run_pure]
 case and=>
  obtain ⟨h1,h2⟩:=hc _ rfl
  refine ⟨_,?_,fun _ _=>.int _ _ _⟩
  simp only [binOp_and,Op.intBits,Sem.run_pure]
  have:=zmb h1 h2
  rw [show IntKind.u64.bits=64 from rfl,this]
 case eql=>exact ⟨_,by simp only [binOp_eql,Sem.run_pure];rfl,fun _ _=>.bool _ _⟩
 case neq=>
  refine ⟨.bool (!decide (x=y)),?_,fun _ _=>.bool _ _⟩
  simp only [binOp_neq,Sem.run_pure];rfl
 case lss=>exact ⟨_,by simp only [binOp_lss,Sem.run_pure],fun _ _=>.bool _ _⟩
 case leq=>exact ⟨_,by simp only [binOp_leq,Sem.run_pure],fun _ _=>.bool _ _⟩
 case gtr=>exact ⟨_,by simp only [binOp_gtr,Sem.run_pure],fun _ _=>.bool _ _⟩
 case geq=>exact ⟨_,by simp only [binOp_geq,Sem.run_pure],fun _ _=>.bool _ _⟩
theorem zfS (w:World) (op:BinOp) (t:TypeId) (X Y:Operand) (a b:Option Addr) (n m c d:Nat):(eqGuard op t X Y (.slice a n c) (.slice b m d)).run P w = .ok () w:=by
 unfold eqGuard
 split <;> rfl
theorem zmQ (hΓ:zbC P Γ) (hdep:8≤P.depth) {op:BinOp} {t:TypeId} {x y:AV} {r:R} (hr:zra Γ op t x y=some r) (hc:∀ q,r.cs=some q→q) {v u:Value} (hx:Rel h ρ x v) (hy:Rel h ρ y u) (X Y:Operand) (w:World) :
 r.wr=[]∧∃ z,((eqGuard op t X Y v u).run P w = .ok () w∧(binOp op t v u).run P w = .ok z w)∧Rel h ρ r.v z:=by
 unfold zra at hr
 split at hr
 · -- integers
   cases hx;cases hy
   obtain ⟨h1,z,h2,h3⟩:=zod (P:=P) w (t:=t) hr hc
   exact ⟨h1,z,⟨by rw [eqGuard_at_int];rfl,h2⟩,h3 _ _⟩
 · -- unsigned
   cases hx;cases hy
   obtain ⟨h1,z,h2,h3⟩:=zoc (P:=P) w (t:=t) hr hc
   exact ⟨h1,z,⟨by rw [eqGuard_at_int];rfl,h2⟩,h3 _ _⟩
 · -- bools
   rename_i p q
   cases hx;cases hy
   have key:∀ T,tyOf Γ t=some T→T.d = .bool→(Op.equalIn 10000 t (.bool p) (.bool q)).run P w = .ok (p == q) w:=fun T hT hk=>run_equalIn_bool' w 9999 t _ _ ((hΓ t T hT).zmZ hk)
   split at hr
   · split at hr
     · rename_i T hT
       split at hr
       · rename_i hk
         cases hr
         refine ⟨rfl,.bool (p == q),⟨by rw [eqGuard_at_bool];rfl,?_⟩,.bool _ _⟩
         simp [binOp,Op.equal,Op.maxDepth,key T hT hk]
       · cases hr
     · cases hr
   · split at hr
     · rename_i T hT
       split at hr
       · rename_i hk
         cases hr
         refine ⟨rfl,.bool (!(p == q)),⟨by rw [eqGuard_at_bool];rfl,?_⟩,.bool _ _⟩
         simp [binOp,Op.equal,Op.maxDepth,key T hT hk]
       · cases hr
     · cases hr
   · cases hr
 · -- structs
   rename_i xs ys
   cases hx with
   | agg _ _ vs hl1 hc1=>
   cases hy with
   | agg _ _ us hl2 hc2=>
   cases hT:tyOf Γ t with
   | none=>simp [hT] at hr
   | some T=>
   simp only [hT] at hr
   cases ha:T.d.agg with
   | false=>simp [ha] at hr
   | true=>
   simp only [ha] at hr
   have key:∀ c,eqTy Γ 8 t xs ys=some c→(Op.equalIn 10000 t (.agg vs.toArray) (.agg us.toArray)).run P w = .ok c w∧P.eqGuardType P.depth t=false:=fun c hq=>by
    have h1:=(zgI hΓ w 8 t xs ys c hq T hT 10000 (by omega)).1 vs us ⟨hl1,hc1⟩ ⟨hl2,hc2⟩
    have h2:=(zgI (h:=h) (ρ:=ρ) hΓ w 8 t xs ys c hq T hT P.depth hdep).2
    simp only [TyD.val,ha] at h1
    exact ⟨h1,h2⟩
   split at hr
   · split at hr
     · rename_i c hq
       cases hr
       obtain ⟨k1,k2⟩:=key c hq
       refine ⟨rfl,.bool c,⟨run_eqGuard_agg w _ _ _ _ _ _ k2,?_⟩,.bool _ _⟩
       rw [run_eql_struct,k1];rfl
     · cases hr
   · split at hr
     · rename_i c hq
       cases hr
       obtain ⟨k1,k2⟩:=key c hq
       refine ⟨rfl,.bool (!c),⟨run_eqGuard_agg w _ _ _ _ _ _ k2,?_⟩,.bool _ _⟩
       rw [run_neq_struct,k1];rfl
     · cases hr
   · cases hr
 · -- a slice,and nil
   rename_i sz n el
   split at hr
   · split at hr
     · rename_i T hT
       split at hr
       · rename_i e hd
         cases hr
         cases hx with
         | ro _ _ _ _ ad cap hnil=>
          cases hy
          refine ⟨rfl,.bool ad.isNone,⟨by rw [zfS],run_eql_slice_nil w t e ad n cap ((hΓ t T hT).zbz hd)⟩,.nz _ _ _ (fun hb=>hnil (by simpa using hb))⟩
       · cases hr
     · cases hr
   · cases hr
 · -- a slice of which it is known,and nil
   rename_i b sz n el
   split at hr
   · split at hr
     · rename_i T hT
       split at hr
       · rename_i e hd
         cases hr
         cases hx with
         | ns _ _ _ _ hv hn=>
         cases hv with
         | ro _ _ _ _ ad cap hnil=>
          cases hy
          have hb:ad.isNone=b:=by
           cases ad with
           | none=>exact (hn.2 ⟨_,_,rfl⟩).symm
           | some x=>
            cases b with
            | false=>rfl
            | true=>obtain ⟨_,_,h⟩:=hn.1 rfl;cases h
          refine ⟨rfl,.bool ad.isNone,⟨by rw [zfS],run_eql_slice_nil w t e ad n cap ((hΓ t T hT).zbz hd)⟩,hb ▸ .bool _ _⟩
       · cases hr
     · cases hr
   · cases hr
 · cases hr
end
end Go.Av
end
/- The evaluator is right, part 6: addresses, slices, lengths, appends. -/
section
set_option linter.all false
namespace Go.Av
section
variable {P:Program} {N:Nat} {C:Ctx} {h:Hp} {ρ:Rho} {F:Fr} {M:Mm} {g:Nat} {a:Act} {w:World} {Γ:Tys} {mg:Mm} {o:Oper}
theorem zl6 (hΓ:zbC P Γ) (I:InvH N C h ρ F M g a w) {t:TypeId} {p:Operand} {k:Nat} (ho:o.op = .fieldAddr t p k) {T:TyD} (hT:tyOf Γ t=some T) {fs:List (Nat×TypeId)} (hd:T.d = .struct fs) {off ft:Nat} (hn:nthN k fs=some (off,ft))
 {FT:TyD} (hFT:tyOf Γ ft=some FT) (hpos:FT.size≠0) {x v:AV} (hx:Rel h ρ x (a.eval p)) (hv:zjb off x=some v):Good P N C h ρ F M g a o w (R.val v):=by
 obtain ⟨f,hu,hfs,_,_,_⟩:=(hΓ t T hT).zgy hd
 obtain ⟨ad,h1,h2⟩:=zix hv hx
 have h3:=zfA hn
 rw [← hfs] at h3
 simp only [List.getElem?_map,Array.getElem?_toList,Option.map_eq_some_iff] at h3
 obtain ⟨fd,h4,h5⟩:=h3
 cases h5
 refine Good.same I (.inl ?_) rfl h2
 unfold execOp
 simp only [ho,h1,Instr.fieldAt,Sem.run_bind,run_underlying hu,Result.andThen_ok,h4,Instr.sureAddr,Sem.run_pure,fieldPlace,(hΓ _ FT hFT).zdx w]
 rw [if_neg hpos]
 simp only [Sem.run_pure,Result.andThen_ok]
theorem zjd {t:TypeId} {T:TyD} (hT:TyOk P t T) {cs:List AV} {vs:List Value} {off:Nat} {v:AV} (H:RelL h ρ cs vs) (ho:zdy T (cs.drop off)=some v) (w:World) :
 ∃ x,(part t vs.toArray off).run P w = .ok x w∧Rel h ρ v x:=by
 unfold zdy at ho
 cases ha:T.d.agg with
 | true=>
  rw [ha] at ho
  simp only [] at ho
  cases hk:takeN T.size (cs.drop off) with
  | none=>rw [hk] at ho;cases ho
  | some xs=>
   rw [hk] at ho;cases ho
   obtain ⟨rfl,hle⟩:=zhs hk
   have hc:=H.cut off T.size
   have hl:((vs.drop off).take T.size).length=T.size:=by rw [hc.1];simp at hle ⊢;omega
   refine ⟨_,ziP hT hl w,?_⟩
   simp only [TyD.val,ha]
   exact .agg _ _ _ hc.1 hc.2
 | false=>
  rw [ha] at ho
  simp only [] at ho
  cases hk:cs.drop off with
  | nil=>rw [hk] at ho;cases ho
  | cons c r=>
   rw [hk] at ho;cases ho
   have h1:=hT.pos ha
   have hlt:off<cs.length:=by
    rcases Nat.lt_or_ge off cs.length with h'|h'
    · exact h'
    · rw [List.drop_eq_nil_of_le h'] at hk;cases hk
   have hlt':off<vs.length:=by rw [H.1];exact hlt
   have hl:((vs.drop off).take T.size).length=T.size:=by rw [h1];simp;omega
   have hcv:cs[off]? = some v:=by
    have:(cs.drop off)[0]? = some v:=by rw [hk];rfl
    simpa using this
   refine ⟨_,ziP hT hl w,?_⟩
   simp only [TyD.val,ha,h1]
   have hd:vs.drop off=vs[off]::vs.drop (off+1):=List.drop_eq_getElem_cons hlt'
   rw [hd]
   exact H.2 off v _ hcv (List.getElem?_eq_getElem hlt')
theorem zqn (hΓ:zbC P Γ) (I:InvH N C h ρ F M g a w) {t:TypeId} {p:Operand} {k:Nat} (ho:o.op = .field t p k) {T:TyD} (hT:tyOf Γ t=some T) {fs:List (Nat×TypeId)} (hd:T.d = .struct fs) {off ft:Nat} (hn:nthN k fs=some (off,ft))
 {FT:TyD} (hFT:tyOf Γ ft=some FT) {cs r:List AV} (hx:Rel h ρ (.agg cs) (a.eval p)) (hr:zdJ off cs=some r) {v:AV} (hv:zdy FT r=some v):Good P N C h ρ F M g a o w (R.val v):=by
 obtain ⟨f,hu,hfs,_,_,_⟩:=(hΓ t T hT).zgy hd
 have h3:=zfA hn
 rw [← hfs] at h3
 simp only [List.getElem?_map,Array.getElem?_toList,Option.map_eq_some_iff] at h3
 obtain ⟨fd,h4,h5⟩:=h3
 cases h5
 obtain ⟨rfl,_⟩:=zc3 hr
 generalize hp:a.eval p=pv at hx
 cases hx with
 | agg _ _ vs hl hc=>
  obtain ⟨y,h6,h7⟩:=zjd (hΓ _ FT hFT) ⟨hl,hc⟩ hv w
  refine Good.same I (.inl ?_) rfl h7
  unfold execOp
  simp only [ho,hp,Instr.field,Sem.run_bind,run_underlying hu,Result.andThen_ok,h4,asAgg,Sem.run_pure,h6]
theorem znB (hΓ:zbC P Γ) (I:InvH N C h ρ F M g a w) {t:TypeId} {p i:Operand} (ho:o.op = .index t p i) {T:TyD} (hT:tyOf Γ t=some T) {n:Nat} {e:TypeId} (hd:T.d = .array n e)
 {E:TyD} (hE:tyOf Γ e=some E) {cs r:List AV} (hx:Rel h ρ (.agg cs) (a.eval p)) {q:Int} (hi:Rel h ρ (.int .i64 q) (a.eval i)) (hr:zdJ (q.toNat * E.size) cs=some r) {v:AV} (hv:zdy E r=some v) (hq:0≤q∧q<(n:Int)) :
 Good P N C h ρ F M g a o w (R.zcF v (0≤q∧q<(n:Int))):=by
 have hu:=(hΓ t T hT).zi4 hd
 obtain ⟨rfl,_⟩:=zc3 hr
 generalize hp:a.eval p=pv at hx
 generalize hj:a.eval i=iv at hi
 cases hi
 cases hx with
 | agg _ _ vs hl hc=>
  obtain ⟨y,h6,h7⟩:=zjd (hΓ _ E hE) ⟨hl,hc⟩ hv w
  refine Good.same I (.inl ?_) rfl h7
  unfold execOp
  simp only [ho,hp,hj,Instr.index,asIntOf,Sem.run_bind,run_underlying hu,Result.andThen_ok,Sem.run_pure]
  rw [if_pos hq]
  simp only [Sem.run_bind,(hΓ _ E hE).zdx w,Result.andThen_ok,h6]
theorem ziY (ad:Addr) (i j:Nat):(ad.add i).add j=ad.add (i+j):=by
 unfold Addr.add
 split <;> split <;> split <;> simp_all <;> omega
theorem zjw (hΓ:zbC P Γ) (I:InvH N C h ρ F M g a w) {t:TypeId} {p i:Operand} (ho:o.op = .indexAddr t p i) {T:TyD} (hT:tyOf Γ t=some T) {e:TypeId} (hd:T.d = .slice e)
 {E:TyD} (hE:tyOf Γ e=some E) {sz n:Nat} {el:Nat→List AV} (hx:Rel h ρ (.ro sz n el) (a.eval p)) (hsz:sz=E.size) {q:Int} (hi:Rel h ρ (.int .i64 q) (a.eval i)) (hq:0≤q∧q<(n:Int)) :
 Good P N C h ρ F M g a o w (R.zcF (.rp (el q.toNat)) (0≤q∧q<(n:Int))):=by
 subst hsz
 have hu:=(hΓ t T hT).zbz hd
 generalize hp:a.eval p=pv at hx
 generalize hj:a.eval i=iv at hi
 cases hi
 cases hx with
 | ro _ _ _ _ ad cap hnil hcap hl hs _ hc=>
  have hlt:q.toNat<n:=by omega
  cases ad with
  | none=>have:=hnil rfl;omega
  | some ad=>
   refine Good.same I (x:=.pointer (some (ad.add (q.toNat * E.size)))) (.inl ?_) rfl (.rp _ _ _ (fun j hj'=>?_) (fun j c v hj' hv=>?_))
   · unfold execOp
     simp only [ho,hp,hj,Instr.indexAt,asIntOf,Sem.run_bind,run_underlying hu,Result.andThen_ok,Sem.run_pure]
     rw [if_pos hq]
     simp only [Sem.run_bind,(hΓ _ E hE).zdx w,Result.andThen_ok,Sem.run_pure]
   · rw [hl _ hlt] at hj'
     rw [ziY];exact hs _ j hlt hj'
   · rw [ziY] at hv;exact hc _ j c v hlt hj' hv
theorem ziD (hΓ:zbC P Γ) (I:InvH N C h ρ F M g a w) {t:TypeId} {p i:Operand} (ho:o.op = .indexAddr t p i) {T:TyD} (hT:tyOf Γ t=some T) {e:TypeId} (hd:T.d = .slice e)
 {E:TyD} (hE:tyOf Γ e=some E) {id n:Nat} (hx:Rel h ρ (.buf id n) (a.eval p)) {ty sz n':Nat} {el:Nat→List AV} (hm:M id=some (.buf ty sz n' el)) (hsz:sz=E.size) {q:Int} (hi:Rel h ρ (.int .i64 q) (a.eval i)) (hq:n=n'∧0≤q∧q<(n':Int)) :
 Good P N C h ρ F M g a o w ⟨.ep id n' q.toNat 0,[id],[],some (n=n'∧0≤q∧q<(n':Int)),none⟩:=by
 subst hsz
 obtain ⟨rfl,hq⟩:=hq
 have hu:=(hΓ t T hT).zbz hd
 obtain ⟨v0,us,e1,e2,e3,_,e4⟩:=I.blk id _ hm
 generalize hp:a.eval p=pv at hx
 generalize hj:a.eval i=iv at hi
 cases hi
 cases hx with
 | buf _ _ _ n2 sz2 v v' hb hle h1 he=>
  rw [e1] at hb;cases hb
  obtain rfl:=he rfl
  rcases e2.2 with ⟨_,h0⟩|⟨b,cap,cur,rfl,_,q3,q4,q5,q6,q7⟩
  · omega
  refine Good.same I (x:=.pointer (some ⟨b,q.toNat * E.size,none⟩)) (.inl ?_) rfl (.ep _ _ _ _ _ _ _ _ _ e1 (Nat.le_refl _) ⟨_,rfl⟩ (fun _=>⟨b,cap,rfl,rfl⟩))
  unfold execOp
  simp only [ho,hp,hj,Instr.indexAt,asIntOf,Sem.run_bind,run_underlying hu,Result.andThen_ok,Sem.run_pure]
  rw [if_pos hq]
  simp only [Sem.run_bind,(hΓ _ E hE).zdx w,Result.andThen_ok,Sem.run_pure,Addr.add_lit,Nat.zero_add]
theorem zjv (hΓ:zbC P Γ) (I:InvH N C h ρ F M g a w) {t:TypeId} {p i:Operand} (ho:o.op = .indexAddr t p i) {T:TyD} (hT:tyOf Γ t=some T) {e:TypeId} (hd:T.d = .slice e)
 {E:TyD} (hE:tyOf Γ e=some E) {id n a0 b0:Nat} (hx:Rel h ρ (.sb id n a0 b0) (a.eval p)) {ty sz n':Nat} {el:Nat→List AV} (hm:M id=some (.buf ty sz n' el)) (hsz:sz=E.size) {q:Int} (hi:Rel h ρ (.int .i64 q) (a.eval i))
 (hq:n=n'∧a0≤b0∧b0≤n'∧0≤q∧q<((b0 - a0:Nat):Int)) :
 Good P N C h ρ F M g a o w ⟨.ep id n' (a0+q.toNat) 0,[id],[],some (n=n'∧a0≤b0∧b0≤n'∧0≤q∧q<((b0 - a0:Nat):Int)),none⟩:=by
 subst hsz
 obtain ⟨rfl,hab,hbn,hq⟩:=hq
 have hu:=(hΓ t T hT).zbz hd
 obtain ⟨v0,us,e1,e2,e3,_,e4⟩:=I.blk id _ hm
 generalize hp:a.eval p=pv at hx
 generalize hj:a.eval i=iv at hi
 cases hi
 cases hx with
 | sb _ _ _ _ _ n2 sz2 v v' hb hle h1 he=>
  rw [e1] at hb;cases hb
  obtain ⟨g0,cap,rfl,rfl⟩:=he rfl
  rcases e2.2 with ⟨h0,_⟩|⟨b,cap',cur,hv,_,q3,q4,q5,q6,q7⟩
  · cases h0
  cases hv
  have hne:¬ cap=a0:=by intro e;omega
  refine Good.same I (x:=.pointer (some ⟨g0,(a0+q.toNat) * E.size,none⟩)) (.inl ?_) rfl (.ep _ _ _ _ _ _ _ _ _ e1 (Nat.le_refl _) ⟨_,rfl⟩ (fun _=>⟨g0,cap,rfl,by simp⟩))
  unfold execOp
  simp only [ho,hp,hj,hne,if_false,Instr.indexAt,asIntOf,Sem.run_bind,run_underlying hu,Result.andThen_ok,Sem.run_pure]
  rw [if_pos hq]
  simp only [Sem.run_bind,(hΓ _ E hE).zdx w,Result.andThen_ok,Sem.run_pure,Addr.add_lit,Nat.add_mul]
theorem zhJ (hΓ:zbC P Γ) (I:InvH N C h ρ F M g a w) {t:TypeId} {p i:Operand} (ho:o.op = .indexAddr t p i) {T:TyD} (hT:tyOf Γ t=some T) {n:Nat} {e:TypeId} (hd:T.d = .array n e)
 {E:TyD} (hE:tyOf Γ e=some E) {x v:AV} (hx:Rel h ρ x (a.eval p)) {q:Int} (hi:Rel h ρ (.int .i64 q) (a.eval i)) (hv:zjb (q.toNat * E.size) x=some v) (hq:0≤q∧q<(n:Int)) :
 Good P N C h ρ F M g a o w (R.zcF v (0≤q∧q<(n:Int))):=by
 have hu:=(hΓ t T hT).zi4 hd
 obtain ⟨ad,h1,h2⟩:=zix hv hx
 generalize hj:a.eval i=iv at hi
 cases hi
 refine Good.same I (.inl ?_) rfl h2
 unfold execOp
 simp only [ho,h1,hj,Instr.indexAt,asIntOf,Sem.run_bind,run_underlying hu,Result.andThen_ok,Sem.run_pure,Instr.sureAddr]
 rw [if_pos hq]
 simp only [Sem.run_bind,(hΓ _ E hE).zdx w,Result.andThen_ok,Sem.run_pure]
theorem zl5 (hΓ:zbC P Γ) (I:InvH N C h ρ F M g a w) {t:TypeId} {l c:Operand} (ho:o.op = .makeSlice t l c) {T:TyD} (hT:tyOf Γ t=some T) {e:TypeId} (hd:T.d = .slice e)
 {E:TyD} (hE:tyOf Γ e=some E) {n m:Int} (hl:Rel h ρ (.int .i64 n) (a.eval l)) (hc:Rel h ρ (.int .i64 m) (a.eval c)) {d:Nat} (hdn:M d=none) (hq:0≤n∧n≤m∧room m.toNat E.bytes) (hmax:m.toNat≤maxLen) :
 Good P N C h ρ F M g a o w ⟨.buf d n.toNat,[d],[(d,.buf e E.size n.toNat (fun _=>zeros E.zero))],some (0≤n∧n≤m∧room m.toNat E.bytes),none⟩:=by
 obtain ⟨hq1,hq2,hq3,hq4⟩:=hq
 have hEy:=hΓ e E hE
 obtain ⟨i,h1,h2,h3,h4⟩:=hEy.info
 have hu:=(hΓ t T hT).zbz hd
 generalize hl':a.eval l=lv at hl
 generalize hc':a.eval c=cv at hc
 cases hl;cases hc
 have hrun:=run_make (P:=P) w t e i E.zeroV hu h1 h4 .i64 .i64 n m hq1 hq2 (by
  rw [h3]
  obtain ⟨mm,rfl⟩:=Int.eq_ofNat_of_zero_le (show 0≤m by omega)
  rw [Int.toNat_natCast] at hq3
  rw [← Int.natCast_mul,Nat.mul_comm]
  generalize mm * E.bytes=k at hq3 ⊢
  omega) (by omega)
 rw [zbD hEy,h2] at hrun
 have hle:n.toNat≤m.toNat:=by omega
 have hmade:RelL h ρ (repL (zeros E.zero) m.toNat) (madeCells E.zero.toArray (m.toNat * E.size)).toList:=RelL.made hEy h ρ m.toNat
 have I':=I.zeZ hdn (.cells (madeCells E.zero.toArray (m.toNat * E.size)) e) (.sl n.toNat E.size (.slice (some ⟨w.heap.size,0,none⟩) n.toNat m.toNat)) (.buf e E.size n.toNat (fun _=>zeros E.zero)) (fun b hb=>(Option.some.inj hb).symm)
  (zbN.zmT hle hmax (size_madeCells _ _) rfl (by
   have:n.toNat * E.size≤m.toNat * E.size:=Nat.mul_le_mul_right _ hle
   rw [List.length_take,Array.length_toList,size_madeCells];omega) (fun _ _=>by rw [zby,hEy.len]) (fun x hx=>by
   have hx':=List.mem_of_mem_take hx
   simp only [Array.mem_toList_iff,madeCells,Array.mem_map,Array.mem_range] at hx'
   obtain ⟨k,hk,rfl⟩:=hx'
   have hpos:0<E.size:=by
    rcases Nat.eq_zero_or_pos E.size with h0|h0
    · rw [h0] at hk;simp at hk
    · exact h0
   have hlt:k % E.zero.length<E.zero.length:=by rw [hEy.len];exact Nat.mod_lt _ hpos
   have:E.zero.toArray[k % E.zero.toArray.size]! = E.zero[k % E.zero.length]:=by simp [hlt]
   rw [this]
   exact (zc9 (Rel.ze3 (fun _=>none) ρ0 _) (hEy.one _ (List.getElem_mem hlt))).1)
   (fun i j c x hi hj hx=>by
    rw [List.getElem?_take] at hx
    split at hx
    rotate_left
    · cases hx
    rename_i hlt
    have hj':j<E.size:=by rw [← hEy.len,← zby];exact (List.getElem?_eq_some_iff.1 hj).1
    have hrep:(repL (zeros E.zero) m.toNat)[i * E.size+j]? = some c:=by
     have hb:i * E.size+j<m.toNat * E.size:=Nat.lt_of_lt_of_le hlt (Nat.mul_le_mul_right _ hle)
     rw [zhv (by rw [zby,hEy.len];exact hb),zby,hEy.len]
     rw [Nat.mul_comm,Nat.mul_add_mod,Nat.mod_eq_of_lt hj'];exact hj
    have hr0:=(RelL.made hEy h ρ0 m.toNat)
    exact hr0.2 _ c x hrep hx))
 refine ⟨.slice (some ⟨w.heap.size,0,none⟩) n.toNat m.toNat,_,_,_,.inl ?_,I',.buf _ _ _ _ _ _ _ (zaf _ _ _) (Nat.le_refl _) rfl (fun _=>rfl)⟩
 unfold execOp
 simp only [ho,hl',hc',Sem.run_bind,hrun,Result.andThen_ok,Sem.run_pure]
end
end Go.Av
end
/- The evaluator is right, part 7: maps, lengths, appends, slices of slices. -/
section
set_option linter.all false
namespace Go.Av
theorem ziQ {n b:Nat} (h:room n b):n≤maxLen:=by
 have:=h.2
 unfold maxLen
 omega
section
variable {P:Program} {N:Nat} {C:Ctx} {h:Hp} {ρ:Rho} {F:Fr} {M:Mm} {g:Nat} {a:Act} {w:World} {Γ:Tys} {mg:Mm} {o:Oper}
theorem zki (I:InvH N C h ρ F M g a w) {x:AV} {sz n:Nat} {el:Nat→List AV} {rd:List Nat} {c:Option Prop} (hx:asRo mg x=some (sz,n,el,rd,c)) (hm:∀ id,id∈rd→M id=mg id) (hc:∀ q,c=some q→q)
 {v:Value} (H:Rel h ρ x v):∃ (ad:Option Addr) (cap:Nat) (news:List Value),v = .slice ad n cap∧news.length=n * sz∧(∀ i,i<n→(el i).length=sz)∧(∀ u,u∈news→u.oneCell'=true) ∧
  (∀ (k:Nat) (u:Value),news[k]? = some u→∃ ad',ad=some ad'∧w.cell? (ad'.add k)=some u) ∧
  (∀ (i j:Nat) (c:AV) (u:Value),i<n→(el i)[j]? = some c→news[i * sz+j]? = some u→Rel h ρ0 c u)∧(ad=none→n=0):=by
 cases x <;> simp only [asRo] at hx <;> (try (cases hx;done))
 case ro sz' n' e=>
  cases hx
  cases H with
  | ro _ _ _ _ ad cap hnil hcap hl hs h1 hc'=>
   refine ⟨ad,cap,(List.range (n * sz)).map (fun k=>(hcell h ad k).getD undef),rfl,by simp,hl,fun u hu=>?_,fun k u hk=>?_,fun i j c u hi hj hu=>?_,hnil⟩
   · simp only [List.mem_map,List.mem_range] at hu
     obtain ⟨k',hlt,hk2⟩:=hu
     have hsz:0<sz:=by
      rcases Nat.eq_zero_or_pos sz with h0|h0
      · subst h0;simp at hlt
      · exact h0
     have h1':=hs (k' / sz) (k' % sz) (by rw [Nat.div_lt_iff_lt_mul hsz];exact hlt) (Nat.mod_lt _ hsz)
     rw [Nat.mul_comm,Nat.div_add_mod] at h1'
     obtain ⟨u',hu'⟩:=Option.isSome_iff_exists.1 h1'
     rw [← hk2,hu']
     exact h1 k' u' hlt hu'
   · simp only [List.getElem?_map,Option.map_eq_some_iff] at hk
     obtain ⟨k',hk1,hk2⟩:=hk
     have hlt:k<n * sz:=by
      have:=(List.getElem?_eq_some_iff.1 hk1).1
      simpa using this
     have:k'=k:=by
      have:=List.getElem?_range hlt
      rw [this] at hk1;cases hk1;rfl
     subst this
     have hsz:0<sz:=by
      rcases Nat.eq_zero_or_pos sz with h0|h0
      · subst h0;simp at hlt
      · exact h0
     have h1:=hs (k' / sz) (k' % sz) (by rw [Nat.div_lt_iff_lt_mul hsz];exact hlt) (Nat.mod_lt _ hsz)
     rw [Nat.mul_comm,Nat.div_add_mod] at h1
     cases ad with
     | none=>simp [hcell] at h1
     | some ad'=>
      obtain ⟨u',hu'⟩:=Option.isSome_iff_exists.1 h1
      refine ⟨ad',rfl,?_⟩
      rw [← hk2,hu']
      exact I.cell hu'
   · have hjs:j<sz:=by rw [← hl i hi];exact (List.getElem?_eq_some_iff.1 hj).1
     have hlt:i * sz+j<n * sz:=by
      calc i * sz+j<i * sz+sz:=by omega
       _=(i+1) * sz:=by rw [Nat.add_mul,Nat.one_mul]
       _≤n * sz:=Nat.mul_le_mul_right _ hi
     simp only [List.getElem?_map,List.getElem?_range hlt,Option.map_some,Option.some.injEq] at hu
     obtain ⟨u',hu'⟩:=Option.isSome_iff_exists.1 (hs i j hi hjs)
     rw [hu'] at hu
     simp at hu;subst hu
     exact hc' i j c _ hi hj hu'
 case buf id n'=>
  cases hg:mg id with
  | none=>simp [hg] at hx
  | some bl=>
   cases bl <;> simp only [hg] at hx <;> (try (cases hx;done))
   rename_i ty sz' n2 e
   cases hx
   obtain rfl:=hc _ rfl
   obtain ⟨v0,us,e1,e2,e3,e5,e4⟩:=I.blk id _ ((hm id (by simp)).trans hg)
   cases H with
   | buf _ _ _ n3 sz2 _ v' hb hle h1 he=>
    rw [e1] at hb;cases hb
    obtain rfl:=he rfl
    rcases e2.2 with ⟨rfl,h0⟩|⟨b,cap,cur,rfl,_,q3,q4,q5,q6,q7⟩
    · subst h0
      exact ⟨none,0,us,rfl,e2.1,e3,e5,fun k u hk=>by
       have:us=[]:=List.eq_nil_of_length_eq_zero (by rw [e2.1];simp)
       subst this;simp at hk,e4,fun _=>rfl⟩
    · exact ⟨some ⟨b,0,none⟩,cap,us,rfl,e2.1,e3,e5,fun k u hk=>⟨_,rfl,e2.cells (g:=b) rfl k u hk⟩,e4,fun e=>by cases e⟩
 case sb id n' p q=>
  cases hg:mg id with
  | none=>simp [hg] at hx
  | some bl=>
   cases bl <;> simp only [hg] at hx <;> (try (cases hx;done))
   rename_i ty sz' n2 e
   cases hx
   obtain ⟨rfl,hpq,hqn⟩:=hc _ rfl
   obtain ⟨v0,us,e1,e2,e3,e5,e4⟩:=I.blk id _ ((hm id (by simp)).trans hg)
   cases H with
   | sb _ _ _ _ _ n3 sz2 _ v' hb hle h1 he=>
    rw [e1] at hb;cases hb
    obtain ⟨b,cap,rfl,rfl⟩:=he rfl
    have hlen:us.length=n' * sz:=e2.1
    have hmul:(p+(q - p)) * sz≤n' * sz:=Nat.mul_le_mul_right _ (by omega)
    have hnl:((us.drop (p * sz)).take ((q - p) * sz)).length=(q - p) * sz:=by
     rw [List.length_take,List.length_drop,hlen]
     rw [Nat.add_mul] at hmul
     omega
    refine ⟨some (if cap=p then ⟨b,0,none⟩ else ⟨b,p * sz,none⟩),cap - p,(us.drop (p * sz)).take ((q - p) * sz),rfl,hnl,fun i hi=>e3 (p+i) (by omega),fun u hu=>e5 u (List.mem_of_mem_drop (List.mem_of_mem_take hu)),fun k u hk=>⟨_,rfl,?_⟩,fun i j c u hi hj hu=>?_,fun e=>by cases e⟩
    · have hk1:k<(q - p) * sz:=by rw [← hnl];exact (List.getElem?_eq_some_iff.1 hk).1
      rw [List.getElem?_take,if_pos hk1,List.getElem?_drop] at hk
      have hne:cap≠p:=by
       intro hcp
       rcases e2.2 with ⟨h0,_⟩|⟨b',cap',cur,h0,_,_,q4,_⟩
       · cases h0
       · cases h0
         have:q - p=0:=by omega
         rw [this] at hk1;omega
      rw [if_neg hne]
      have:=e2.cells (g:=b) rfl (p * sz+k) u hk
      simpa [Addr.add_lit] using this
    · have hj':j<sz:=by have:=e3 (p+i) (by omega);rw [← this];exact (List.getElem?_eq_some_iff.1 hj).1
      have hlt:i * sz+j<(q - p) * sz:=by
       calc i * sz+j<i * sz+sz:=by omega
        _=(i+1) * sz:=by rw [Nat.add_mul,Nat.one_mul]
        _≤(q - p) * sz:=Nat.mul_le_mul_right _ hi
      rw [List.getElem?_take,if_pos hlt,List.getElem?_drop] at hu
      refine e4 (p+i) j c u (by omega) hj ?_
      rw [← hu];congr 1;rw [Nat.add_mul];omega
end
end Go.Av
end
/- The evaluator is right, part 8: appends and maps. -/
section
set_option linter.all false
namespace Go.Av
open Go.MapKept
section
variable {P:Program} {N:Nat} {C:Ctx} {h:Hp} {ρ:Rho} {F:Fr} {M:Mm} {g:Nat} {a:Act} {w:World} {Γ:Tys} {mg:Mm} {o:Oper}
theorem zf4 (base:Nat) (t ty e:TypeId) (ht:P.underlying t=some (.slice e)) {E:TyD} (hE:TyOk P e E) {v:Value} {n:Nat} {xs:List Value} (hown:w.ownsRow base e E.size v n xs) (ad:Option Addr) (c:Nat) :
 (Builtin.append_ #[t,t] ty #[v,.slice ad 0 c]).run P w = .ok v w:=by
 obtain ⟨i,h1,h2,_,_⟩:=hE.info
 rcases hown.2 with ⟨rfl,rfl⟩|⟨g,cap,cur,rfl,_,_,hnc,_⟩ <;> cases ad <;>
  simp [Builtin.append_,run_underlying ht,sizeOf,typeInfo,Builtin.lenOf,Builtin.firstCells,storeCells,loadCells,loadCellsFrom, *]
theorem zfG {a:Act} {o:Oper} {x y:Operand} {t:TypeId} (ho:o.op = .call { callee:=.builtin .append,args:=#[x,y],argTypes:=#[t,t] }) {v:Value} {w w':World}
 (hr:(Builtin.append_ #[t,t] o.type #[a.eval x,a.eval y]).run P w = .ok v w'):(execOp a.eval o).run P w = .ok (.value v) w':=by
 unfold execOp
 simp only [ho,resolve,invoke,builtin,Sem.run_bind,Sem.run_pure,Result.andThen_ok,List.map_toArray,List.map_cons,List.map_nil,hr]
theorem zkX (hΓ:zbC P Γ) (I:InvH N C h ρ F M g a w) {t:TypeId} {x y:Operand} (ho:o.op = .call { callee:=.builtin .append,args:=#[x,y],argTypes:=#[t,t] }) {T:TyD} (hT:tyOf Γ t=some T) {e:TypeId} (hd:T.d = .slice e)
 {E:TyD} (hE:tyOf Γ e=some E) (hpos:0<E.size) (hs:Rel h ρ .nilS (a.eval x)) {s:AV} (hx:Rel h ρ s (a.eval y)) {n2:Nat} {e2:Nat→List AV} {rd:List Nat} {c:Option Prop} (hro:asRo mg s=some (E.size,n2,e2,rd,c))
 (hm:∀ id,id∈rd→M id=mg id) {d:Nat} (hdn:M d=none) (hc:∀ q,andO (some (room n2 E.bytes)) c=some q→q) :
 Good P N C h ρ F M g a o w ⟨.buf d n2,d::rd,[(d,.buf e E.size n2 e2)],andO (some (room n2 E.bytes)) c,none⟩:=by
 have hroom:room n2 E.bytes:=by cases c <;> first|exact hc _ rfl|exact (hc _ rfl).1
 have hc':∀ q,c=some q→q:=by rintro q rfl;exact (hc _ rfl).2
 have hEy:=hΓ e E hE
 have hu:=(hΓ t T hT).zbz hd
 obtain ⟨i,h1,h2,h3,h4⟩:=hEy.info
 obtain ⟨ad,cap,news,hv,hl,hel,hone,hnews,hrel,hnil⟩:=zki I hro hm hc' hx
 have hn:a.eval x = .slice none 0 0:=by generalize a.eval x=z at hs;cases hs;rfl
 have hρ:=I.dom d hdn
 -- the state behind the append
 have fin:∀ (v':Value) (w':World),(Builtin.append_ #[t,t] o.type #[a.eval x,a.eval y]).run P w = .ok v' w'→w'.ownsRow w.heap.size e E.size v' n2 news→w.grownBy w' none →
  Good P N C h ρ F M g a o w ⟨.buf d n2,d::rd,[(d,.buf e E.size n2 e2)],andO (some (room n2 E.bytes)) c,none⟩:=by
  intro v' w' hrun hown hg
  have hown0:w'.ownsRow 0 e E.size v' n2 news:=⟨hown.1,by
   rcases hown.2 with h5|⟨gg,cp,cur,k1,_,k3,k4⟩
   · exact .inl h5
   · exact .inr ⟨gg,cp,cur,k1,Nat.zero_le _,k3,k4⟩⟩
  have hblk:∀ b,v'.ownBlock=some b→w.heap.size≤b∧b<w'.heap.size:=fun b hb=>hown.lt b hb
  have hle:∀ j l,ρ j=some l→∃ l',upd ρ d (some (.sl n2 E.size v')) j=some l'∧l.le l':=by
   intro j l hj
   have hne:j≠d:=by rintro rfl;rw [hρ] at hj;cases hj
   exact ⟨l,by rw [zae _ _ hne];exact hj,.inl rfl⟩
  have I':InvH N C h (upd ρ d (some (.sl n2 E.size v'))) F (upd M d (some (.buf e E.size n2 e2))) g a w':=by
   refine I.step (S:=fun j=>j=d) hg.os hg.tape hg.output hg.size (fun k hk _=>hg.block k hk (by simp)) (fun j hj=>zae _ _ hj) hle (fun _ _ q=>q) (fun _ _ q=>.inl q) (fun j hj=>zae _ _ hj) ?_ ?_ ?_ ?_
   · rintro j rfl hM;rw [zaf] at hM;cases hM
   · rintro j z rfl hM;rw [zaf] at hM;cases hM
     exact ⟨v',news,zaf _ _ _,hown0,hel,hone,hrel⟩
   · rintro j l b rfl k1 k2
     rw [zaf] at k1;cases k1
     obtain ⟨q1,q2⟩:=hblk b k2
     refine .inr ⟨q1,q2,?_⟩
     cases hb:h b with
     | none=>rfl
     | some o'=>have:=I.hlt hb;omega
   · rintro j j' l l' b rfl rfl _ _ _ _;rfl
  have hcell:v'.oneCell'=true:=by
   rcases hown.2 with ⟨rfl,_⟩|⟨_,_,_,rfl,_⟩ <;> rfl
  exact ⟨v',w',h,_,.inl (zfG ho hrun),I',.buf _ _ _ _ _ _ _ (zaf _ _ _) (Nat.le_refl _) hcell (fun _=>rfl)⟩
 by_cases hz:n2=0
 · subst hz
   have hnn:news=[]:=List.eq_nil_of_length_eq_zero (by rw [hl];simp)
   subst hnn
   refine fin (.slice none 0 0) w ?_ (World.ownsRow_nil _ _ _ _) ⟨rfl,rfl,rfl,Nat.le_refl _,fun _ _ _=>rfl⟩
   rw [hn,hv]
   exact zf4 w.heap.size t o.type e hu hEy (World.ownsRow_nil w _ _ _) ad cap
 · obtain ⟨ad',rfl⟩:∃ ad',ad=some ad':=by cases ad with|none=>exact absurd (hnil rfl) hz|some q=>exact ⟨q,rfl⟩
   have hnews':∀ j u,news[j]? = some u→w.cell? (ad'.add j)=some u:=fun j u hj=>by obtain ⟨a2,q1,q2⟩:=hnews j u hj;cases q1;exact q2
   obtain ⟨v',w',k1,k2,k3,_⟩:=run_append_own (P:=P) w w.heap.size t o.type e i E.zeroV E.size E.bytes hu h1 h4 h2 h3 (by rw [zbD hEy];simpa using hEy.len) hpos (.slice none 0 0) 0 [] (World.ownsRow_nil w _ _ _)
    ad' n2 cap news hl hnews' hone (by rw [Nat.zero_add];exact ziQ hroom) (by rw [Nat.zero_add];exact hroom.1) (Nat.le_refl _)
   rw [Nat.zero_add,List.nil_append] at k2
   exact fin v' w' (by rw [hn,hv];exact k1) k2 k3
theorem zkY (hΓ:zbC P Γ) (I:InvH N C h ρ F M g a w) {t:TypeId} {x y:Operand} (ho:o.op = .call { callee:=.builtin .append,args:=#[x,y],argTypes:=#[t,t] }) {T:TyD} (hT:tyOf Γ t=some T) {e:TypeId} (hd:T.d = .slice e)
 {E:TyD} (hE:tyOf Γ e=some E) (hpos:0<E.size) {id n n' sz:Nat} {e1:Nat→List AV} (hs:Rel h ρ (.buf id n) (a.eval x)) (hM:M id=some (.buf e sz n' e1)) (hsz:sz=E.size) {s:AV} (hx:Rel h ρ s (a.eval y)) {n2:Nat} {e2:Nat→List AV} {rd:List Nat} {c:Option Prop}
 (hro:asRo mg s=some (E.size,n2,e2,rd,c)) (hm:∀ j,j∈rd→M j=mg j) (hc:∀ q,andO (some (n=n'∧room (n'+n2) E.bytes)) c=some q→q) :
 Good P N C h ρ F M g a o w ⟨.buf id (n'+n2),id::rd,[(id,.buf e sz (n'+n2) (fun k=>if k<n' then e1 k else e2 (k - n')))],andO (some (n=n'∧room (n'+n2) E.bytes)) c,none⟩:=by
 subst hsz
 obtain ⟨rfl,hroom⟩:n=n'∧room (n'+n2) E.bytes:=by cases c <;> first|exact hc _ rfl|exact (hc _ rfl).1
 have hc':∀ q,c=some q→q:=by rintro q rfl;exact (hc _ rfl).2
 have hEy:=hΓ e E hE
 have hu:=(hΓ t T hT).zbz hd
 obtain ⟨i,h1,h2,h3,h4⟩:=hEy.info
 obtain ⟨ad,cap,news,hv,hl,hel,hone,hnews,hrel,hnil⟩:=zki I hro hm hc' hx
 obtain ⟨v0,us,f1,f2,f3,f5,f4⟩:=I.blk id _ hM
 have hn:a.eval x=v0:=by
  generalize a.eval x=z at hs
  cases hs with
  | buf _ _ _ _ _ _ _ hb hle k1 he=>rw [f1] at hb;cases hb;exact he rfl
 have hlen:us.length=n * E.size:=f2.1
 have fin:∀ (v':Value) (w':World),(Builtin.append_ #[t,t] o.type #[a.eval x,a.eval y]).run P w = .ok v' w'→w'.ownsRow 0 e E.size v' (n+n2) (us++news)→w.grownBy w' v0.ownBlock →
  (v'.ownBlock=v0.ownBlock∨v'.ownBlock=some w.heap.size)→((n=n+n2∧v0=v')∨n<n+n2) →
  Good P N C h ρ F M g a o w ⟨.buf id (n+n2),id::rd,[(id,.buf e E.size (n+n2) (fun k=>if k<n then e1 k else e2 (k - n)))],andO (some (n=n∧room (n+n2) E.bytes)) c,none⟩:=by
  intro v' w' hrun hown hg hb hle
  have hnb:∀ b,v'.ownBlock=some b→v0.ownBlock=some b∨(w.heap.size≤b∧b<w'.heap.size):=by
   intro b hb'
   rcases hb with q|q
   · exact .inl (q▸hb')
   · rw [q] at hb';cases hb';exact .inr ⟨Nat.le_refl _,(hown.lt _ q).2⟩
  have hcell:v'.oneCell'=true:=by
   rcases hown.2 with ⟨rfl,_⟩|⟨_,_,_,rfl,_⟩ <;> rfl
  refine ⟨v',w',h,_,.inl (zfG ho hrun),I.zoi f1 _ hle hg hnb ?_,.buf _ _ _ _ _ _ _ (zaf _ _ _) (Nat.le_refl _) hcell (fun _=>rfl)⟩
  refine ⟨v',us++news,zaf _ _ _,hown,fun k hk=>?_,fun u hu'=>?_,fun k j cc u hk hcc hu'=>?_⟩
  · show (if k<n then e1 k else e2 (k - n)).length=E.size
    by_cases hkn:k<n
    · rw [if_pos hkn];exact f3 k hkn
    · rw [if_neg hkn];exact hel _ (by omega)
  · rcases List.mem_append.1 hu' with q|q
    · exact f5 u q
    · exact hone u q
  · replace hcc:(if k<n then e1 k else e2 (k - n))[j]? = some cc:=hcc
    by_cases hkn:k<n
    · rw [if_pos hkn] at hcc
      have hj:j<E.size:=by rw [← f3 k hkn];exact (List.getElem?_eq_some_iff.1 hcc).1
      have:k * E.size+j<us.length:=by
       rw [hlen]
       calc k * E.size+j<k * E.size+E.size:=by omega
        _=(k+1) * E.size:=by rw [Nat.add_mul,Nat.one_mul]
        _≤n * E.size:=Nat.mul_le_mul_right _ hkn
      rw [List.getElem?_append_left this] at hu'
      exact f4 k j cc u hkn hcc hu'
    · rw [if_neg hkn] at hcc
      have hge:n * E.size≤k * E.size:=Nat.mul_le_mul_right _ (by omega)
      rw [List.getElem?_append_right (by rw [hlen];omega),hlen] at hu'
      have:k * E.size+j - n * E.size=(k - n) * E.size+j:=by rw [Nat.sub_mul];omega
      rw [this] at hu'
      exact hrel (k - n) j cc u (by omega) hcc hu'
 by_cases hz:n2=0
 · subst hz
   have hnn:news=[]:=List.eq_nil_of_length_eq_zero (by rw [hl];simp)
   subst hnn
   refine fin v0 w ?_ (by simpa using f2) ⟨rfl,rfl,rfl,Nat.le_refl _,fun _ _ _=>rfl⟩ (.inl rfl) (.inl ⟨rfl,rfl⟩)
   rw [hn,hv]
   exact zf4 0 t o.type e hu hEy f2 ad cap
 · obtain ⟨ad',rfl⟩:∃ ad',ad=some ad':=by cases ad with|none=>exact absurd (hnil rfl) hz|some q=>exact ⟨q,rfl⟩
   have hnews':∀ j u,news[j]? = some u→w.cell? (ad'.add j)=some u:=fun j u hj=>by obtain ⟨a2,q1,q2⟩:=hnews j u hj;cases q1;exact q2
   obtain ⟨v',w',k1,k2,k3,_,k5⟩:=run_append_own_at (P:=P) w 0 t o.type e i E.zeroV E.size E.bytes hu h1 h4 h2 h3 (by rw [zbD hEy];simpa using hEy.len) hpos v0 n us f2
    ad' n2 cap news hl hnews' hone (ziQ hroom) hroom.1 (Nat.zero_le _)
   exact fin v' w' (by rw [hn,hv];exact k1) k2 k3 k5 (.inr (by omega))
theorem zdo (k:Int):IsKey (.int .i64) (.int .i64 k):=rfl
theorem find_spec {es:List MapEntry} {ks:List Int} (hl:ks.length=es.length) (hk:∀ (i:Nat) (k:Int) (x:MapEntry),ks[i]? = some k→es[i]? = some x→x.key = .int .i64 k) (q:Int) :
 (q ∉ ks∧Instr.findNow (.int .i64) (.int .i64 q) es 0=some none)∨∃ j x,ks[j]? = some q∧es[j]? = some x∧Instr.findNow (.int .i64) (.int .i64 q) es 0=some (some (j,x.val)):=by
 have hkeys:∀ x∈es,IsKey (.int .i64) x.key:=by
  intro x hx
  obtain ⟨i,hi,rfl⟩:=List.getElem_of_mem hx
  rw [hk i ks[i] es[i] (List.getElem?_eq_getElem (by omega)) (List.getElem?_eq_getElem hi)]
  rfl
 rcases findNow_spec (zdo q) es 0 hkeys with ⟨h1,h2⟩|⟨j,x,h1,h2,h3⟩
 · refine .inl ⟨fun hm=>?_,h1⟩
   obtain ⟨i,hi,hq⟩:=List.getElem_of_mem hm
   have:=hk i ks[i] (es[i]'(by omega)) (List.getElem?_eq_getElem hi) (List.getElem?_eq_getElem (by omega))
   exact h2 _ (List.getElem_mem _) (by rw [this,hq])
 · have hj:j<es.length:=(List.getElem?_eq_some_iff.1 h2).1
   have h4:=hk j ks[j] x (List.getElem?_eq_getElem (by omega)) h2
   rw [h3] at h4
   have h5:q=ks[j]:=by cases h4;rfl
   exact .inr ⟨j,x,by rw [h5];exact List.getElem?_eq_getElem _,h2,by simpa using h1⟩
theorem zdn {t kt et:TypeId} (hu:P.underlying t=some (.map kt et)) (hk:P.underlying kt=some (.int .i64)) {E:TyD} (hE:TyOk P et E) {r:Nat} {es:List MapEntry} {clock:Nat} (hb:w.heap[r]? = some (.map es.toArray clock)) (q:Int) (ok:Bool)
 {res:Option (Nat×Value)} (hf:Instr.findNow (.int .i64) (.int .i64 q) es 0=some res) :
 (Instr.lookup t (.map (some r)) (.int .i64 q) ok).run P w = .ok (if ok then .tuple #[(res.map (·.2)).getD E.zeroV,.bool res.isSome] else (res.map (·.2)).getD E.zeroV) w:=by
 have hfk:=run_findKey (P:=P) (w:=w) hk hf
 cases res with
 | none=>
  simp only [Instr.lookup,Sem.run_bind,run_underlying hu,Result.andThen_ok,MapKept.run_getObj_map hb,Sem.run_pure,run_checkKey hk (zdo q),hfk,hE.ze2 w]
  cases ok <;> rfl
 | some p=>
  simp only [Instr.lookup,Sem.run_bind,run_underlying hu,Result.andThen_ok,MapKept.run_getObj_map hb,Sem.run_pure,run_checkKey hk (zdo q),hfk]
  cases ok <;> rfl
theorem zia {h:Hp} {z:Value} {dom:Int→Bool} {e:Int→AV} {es:List MapEntry} {ks:List Int} (hl:ks.length=es.length) (hk:∀ (i:Nat) (k:Int) (x:MapEntry),ks[i]? = some k→es[i]? = some x→x.key = .int .i64 k)
 (hdom:∀ k,dom k=true↔k∈ks) (hz:∀ k,dom k=false→Rel h ρ0 (e k) z) (hc:∀ (i:Nat) (k:Int) (x:MapEntry),ks[i]? = some k→es[i]? = some x→Rel h ρ0 (e k) x.val) (q:Int) :
 ∃ res,Instr.findNow (.int .i64) (.int .i64 q) es 0=some res∧Rel h ρ0 (e q) ((res.map (·.2)).getD z)∧res.isSome=dom q:=by
 rcases find_spec hl hk q with ⟨h1,h2⟩|⟨j,x,h1,h2,h3⟩
 · have hd:dom q=false:=by
    cases hd:dom q with
    | false=>rfl
    | true=>exact absurd ((hdom q).1 hd) h1
   exact ⟨none,h2,hz q hd,by rw [hd];rfl⟩
 · have hd:dom q=true:=(hdom q).2 (List.mem_of_getElem? h1)
   exact ⟨some (j,x.val),h3,hc j q x h1 h2,by rw [hd];rfl⟩
theorem zch {a:Act} {o:Oper} {x y:Operand} {t:TypeId} {ok:Bool} (ho:o.op = .lookup t x y ok) {v:Value} {w w':World} (hr:(Instr.lookup t (a.eval x) (a.eval y) ok).run P w = .ok v w'):(execOp a.eval o).run P w = .ok (.value v) w':=by
 unfold execOp
 simp only [ho,Sem.run_bind,hr,Result.andThen_ok,Sem.run_pure]
def lkA (ok:Bool) (v:AV) (b:Bool):AV:=match ok with
 | true=>.tup [v,.bool b]
 | false=>v
theorem zm6 {h:Hp} {ρ:Rho} {v:AV} {x:Value} (H:Rel h ρ v x) (ok b:Bool):Rel h ρ (lkA ok v b) (if ok then .tuple #[x,.bool b] else x):=by
 cases ok
 · exact H
 · have:=RelL.cons H (RelL.cons (Rel.bool ρ b) (RelL.nil h ρ))
   exact .tup _ _ _ this.1 this.2
theorem zpe (hΓ:zbC P Γ) (I:InvH N C h ρ F M g a w) {t:TypeId} {x y:Operand} {ok:Bool} (ho:o.op = .lookup t x y ok) {m k:AV} (hmv:Rel h ρ m (a.eval x)) (hkv:Rel h ρ k (a.eval y)) {r:R} (hr:zk4 Γ mg t m k ok=some r)
 (hm:∀ id,id∈r.rd→M id=mg id) (hc:∀ q,r.cs=some q→q):Good P N C h ρ F M g a o w r:=by
 unfold zk4 at hr
 cases hT:tyOf Γ t with
 | none=>simp [hT] at hr
 | some T=>
 simp only [hT] at hr
 cases hd:T.d <;> simp only [hd] at hr <;> (try (cases hr;done))
 rename_i kt et
 cases hK:tyOf Γ kt with
 | none=>simp [hK] at hr
 | some KT=>
 simp only [hK] at hr
 cases hkd:KT.d <;> simp only [hkd] at hr <;> (try (cases hr;done))
 rename_i ik
 cases ik <;> (try simp only [] at hr) <;> (try (cases hr;done))
 cases hE:tyOf Γ et with
 | none=>simp [hE] at hr
 | some E=>
 simp only [hE] at hr
 have hu:=(hΓ t T hT).zhY hd
 have hku:=(hΓ kt KT hK).ze0 hkd
 have hEy:=hΓ et E hE
 cases k <;> (try simp only [] at hr) <;> (try (cases hr;done))
 rename_i kk q
 cases kk <;> (try simp only [] at hr) <;> (try (cases hr;done))
 generalize hy:a.eval y=yv at hkv
 cases hkv
 generalize hx:a.eval x=xv at hmv
 cases m <;> (try simp only [] at hr) <;> (try (cases hr;done))
 case mp id=>
  cases hg:mg id with
  | none=>simp [hg] at hr
  | some bl=>
   cases bl <;> simp only [hg] at hr <;> (try (cases hr;done))
   case gmap ty sz n dom m e out=>
    cases out with
    | none=>simp at hr
    | some p=>
    obtain ⟨k0,a0⟩:=p
    simp only [] at hr
    cases ok with
    | true=>simp at hr
    | false=>
    simp only [] at hr
    cases hr
    obtain ⟨rfl,hz0⟩:=hc _ rfl
    obtain ⟨b,es,clock,ks,R,e1,e2,e3,e4,e5,e6,e7,e8,e9,e10,e11,e12,e13⟩:=I.blk id _ ((hm id (by simp)).trans hg)
    cases hmv with
    | mp _ _ li b' hb hmb=>
     rw [e1] at hb;cases hb;cases hmb
     rcases find_spec (by rw [e4,e5]) e6 q with ⟨h1,h2⟩|⟨j,x0,h1,h2,h3⟩
     · have hd:dom q=false:=by
        cases hd:dom q with
        | false=>rfl
        | true=>exact absurd ((e9 q).1 hd) h1
       have hrun:=zdn (P:=P) hu hku hEy e2 q false h2
       exact Good.same I (.inl (zch ho (by rw [hx,hy];exact hrun))) rfl (by rw [hz0];exact (e11 q a0 rfl).2 hd)
     · have hrun:=zdn (P:=P) hu hku hEy e2 q false h3
       exact Good.same I (.inl (zch ho (by rw [hx,hy];exact hrun))) rfl ((e10 j q x0 h1 h2).1 a0 rfl)
   rename_i z dom e n
   have hr':r=⟨lkA ok (e q) (dom q),[id],[],some (z=E.zeroV),none⟩:=by cases ok <;> (simp only [] at hr;cases hr;rfl)
   subst hr'
   obtain rfl:z=E.zeroV:=hc _ rfl
   obtain ⟨b,es,clock,ks,e1,e2,e3,e4,e5,e6,e7,e8,e9,ez,e10⟩:=I.blk id _ ((hm id (by simp)).trans hg)
   cases hmv with
   | mp _ _ li b' hb hmb=>
    rw [e1] at hb;cases hb;cases hmb
    obtain ⟨res,f1,f2,f3⟩:=zia (by rw [e4,e5]) e6 e9 ez e10 q
    have hrun:=zdn (P:=P) hu hku hEy e2 q ok f1
    rw [f3] at hrun
    exact Good.same I (.inl (zch ho (by rw [hx,hy];exact hrun))) rfl (zm6 f2.closed ok (dom q))
 case rom z dom e n=>
  have hr':r=R.zcF (lkA ok (e q) (dom q)) (z=E.zeroV):=by cases ok <;> (simp only [] at hr;cases hr;rfl)
  subst hr'
  obtain rfl:z=E.zeroV:=hc _ rfl
  cases hmv with
  | romN _ _ _ _ hdom hz0=>
   have hrun:(Instr.lookup t (.map none) (.int .i64 q) ok).run P w = .ok (if ok then .tuple #[E.zeroV,.bool false] else E.zeroV) w:=by
    have hfk:=run_findKey (P:=P) (w:=w) (k:=.int .i64 q) (l:=[]) hku rfl
    simp only [Instr.lookup,Sem.run_bind,run_underlying hu,Result.andThen_ok,Sem.run_pure,run_checkKey hku (zdo q),hfk,hEy.ze2 w]
   exact Good.same I (.inl (zch ho (by rw [hx,hy];exact hrun))) rfl (by have:=zm6 (ρ:=ρ) (hz0 q).closed ok (dom q);rw [hdom q] at this ⊢;exact this)
  | rom _ _ _ _ _ b es clock ks e2 e3 e4 e5 e6 e7 e8 e9 ez e10=>
   obtain ⟨res,f1,f2,f3⟩:=zia (by rw [e4,e5]) e6 e9 ez e10 q
   have hrun:=zdn (P:=P) hu hku hEy (I.hp _ _ e2) q ok f1
   rw [f3] at hrun
   exact Good.same I (.inl (zch ho (by rw [hx,hy];exact hrun))) rfl (zm6 f2.closed ok (dom q))
 case pin hp0 q0=>
  cases q0 <;> (try simp only [] at hr) <;> (try (cases hr;done))
  rename_i z dom e n
  cases ok with
  | true=>simp at hr
  | false=>
  simp only [] at hr
  cases hr
  obtain rfl:z=E.zeroV:=hc _ rfl
  cases hmv with
  | pin _ _ _ _ hl hv=>
  cases hv with
  | romN _ _ _ _ hdom hz0=>
   have hrun:(Instr.lookup t (.map none) (.int .i64 q) false).run P w = .ok E.zeroV w:=by
    have hfk:=run_findKey (P:=P) (w:=w) (k:=.int .i64 q) (l:=[]) hku rfl
    simp only [Instr.lookup,Sem.run_bind,run_underlying hu,Result.andThen_ok,Sem.run_pure,run_checkKey hku (zdo q),hfk,hEy.ze2 w]
    rfl
   exact Good.same (r:=R.zcF (.pin hp0 (e q)) (E.zeroV=E.zeroV)) I (.inl (zch ho (by rw [hx,hy];exact hrun))) rfl (.pin _ _ _ _ hl (hz0 q))
  | rom _ _ _ _ _ b es clock ks e2 e3 e4 e5 e6 e7 e8 e9 ez e10=>
   obtain ⟨res,f1,f2,f3⟩:=zia (by rw [e4,e5]) e6 e9 ez e10 q
   have hrun:=zdn (P:=P) hu hku hEy (I.hp _ _ (hl _ _ e2 (by simp) (by simp))) q false f1
   exact Good.same (r:=R.zcF (.pin hp0 (e q)) (E.zeroV=E.zeroV)) I (.inl (zch ho (by rw [hx,hy];exact hrun))) rfl (.pin _ _ _ _ hl f2)
 case nilMap=>
  have hr':r=R.val (lkA ok (zjL E) false):=by cases ok <;> (simp only [] at hr;cases hr;rfl)
  subst hr'
  cases hmv
  have hrun:(Instr.lookup t (.map none) (.int .i64 q) ok).run P w = .ok (if ok then .tuple #[E.zeroV,.bool false] else E.zeroV) w:=by
   have hfk:=run_findKey (P:=P) (w:=w) (k:=.int .i64 q) (l:=[]) hku rfl
   simp only [Instr.lookup,Sem.run_bind,run_underlying hu,Result.andThen_ok,Sem.run_pure,run_checkKey hku (zdo q),hfk,hEy.ze2 w]
  exact Good.same I (.inl (zch ho (by rw [hx,hy];exact hrun))) rfl (zm6 (Rel.zjL hEy h ρ) ok false)
theorem zlw (k:Int):Instr.sameBits 10000 (.int .i64 k) (.int .i64 k)=true:=by simp [Instr.sameBits]
theorem ziu (k:Int) (w:World):(Instr.keyThatStays (.int .i64 k) (.int .i64 k)).run P w = .ok (.int .i64 k) w:=by
 unfold Instr.keyThatStays
 rw [if_pos (zlw k)];rfl
theorem znP {t kt et:TypeId} (hu:P.underlying t=some (.map kt et)) (hku:P.underlying kt=some (.int .i64)) {b:Nat} {es:List MapEntry} {clock:Nat} {ks:List Int} (e2:w.heap[b]? = some (.map es.toArray clock)) (e3:ks.Nodup) (e4:ks.length=es.length)
 (e6:∀ (i:Nat) (k:Int) (x:MapEntry),ks[i]? = some k→es[i]? = some x→x.key = .int .i64 k) (e7:∀ x∈es,x.born<clock) (e8:(es.map (·.born)).Nodup) (q:Int) (v:Value) :
 ∃ (es':List MapEntry) (clock':Nat) (ks':List Int),(Instr.mapUpdate t (.map (some b)) (.int .i64 q) v).run P w = .ok () { w with heap:=w.heap.setIfInBounds b (.map es'.toArray clock') }∧ks'.Nodup∧ks'.length=es'.length∧ks'.length=(if q∈ks then ks.length else ks.length+1) ∧
  (∀ k,k∈ks'↔k=q∨k∈ks)∧(∀ (i:Nat) (k:Int) (x:MapEntry),ks'[i]? = some k→es'[i]? = some x→x.key = .int .i64 k)∧(∀ x∈es',x.born<clock')∧(es'.map (·.born)).Nodup ∧
  ∀ (i:Nat) (k:Int) (x:MapEntry),ks'[i]? = some k→es'[i]? = some x→(k=q∧x.val=v)∨(k≠q∧∃ i0:Nat,ks[i0]? = some k∧es[i0]? = some x):=by
 rcases find_spec e4 e6 q with ⟨h1,h2⟩|⟨j,x0,h1,h2,h3⟩
 · refine ⟨es++[{ key:=.int .i64 q,val:=v,born:=clock }],clock+1,ks++[q],?_,?_,by simp [e4],by simp [h1],by simp [or_comm],?_,?_,?_,?_⟩
   · simp only [Instr.mapUpdate,Sem.run_bind,run_underlying hu,Result.andThen_ok,MapKept.run_getObj_map e2,run_checkKey hku (zdo q),run_findKey hku h2,MapKept.run_setObj_map _ e2]
     simp
   · rw [List.nodup_append];exact ⟨e3,by simp,by simp;rintro c hc rfl;exact h1 hc⟩
   · intro i k x hik hix
     by_cases hi:i<ks.length
     · rw [List.getElem?_append_left hi] at hik
       rw [List.getElem?_append_left (by omega)] at hix
       exact e6 i k x hik hix
     · rw [List.getElem?_append_right (by omega)] at hik
       rw [List.getElem?_append_right (by omega)] at hix
       have hi0:i - ks.length=0:=by
        have:=(List.getElem?_eq_some_iff.1 hik).1;simp at this;omega
       rw [hi0] at hik
       have hi1:i - es.length=0:=by omega
       rw [hi1] at hix
       simp at hik hix;subst hik hix;rfl
   · intro x hx'
     rcases List.mem_append.1 hx' with p|p
     · have:=e7 x p;omega
     · simp at p;subst p;simp
   · simp only [List.map_append,List.map_cons,List.map_nil]
     rw [List.nodup_append]
     refine ⟨e8,by simp,?_⟩
     intro c hc d hd' heq
     simp at hd';subst hd';subst heq
     obtain ⟨x,p1,p2⟩:=List.mem_map.1 hc
     have:=e7 x p1;omega
   · intro i k x hik hix
     by_cases hi:i<ks.length
     · rw [List.getElem?_append_left hi] at hik
       rw [List.getElem?_append_left (by omega)] at hix
       have hne:k≠q:=by rintro rfl;exact h1 (List.mem_of_getElem? hik)
       exact .inr ⟨hne,i,hik,hix⟩
     · rw [List.getElem?_append_right (by omega)] at hik
       rw [List.getElem?_append_right (by omega)] at hix
       have hi0:i - ks.length=0:=by
        have:=(List.getElem?_eq_some_iff.1 hik).1;simp at this;omega
       rw [hi0] at hik
       have hi1:i - es.length=0:=by omega
       rw [hi1] at hix
       simp at hik hix;subst hik hix;exact .inl ⟨rfl,rfl⟩
 · have hkey:=e6 j q x0 h1 h2
   have hgm:∀ i,(es.modify j fun e=>{ e with key:=.int .i64 q,val:=v })[i]? = if i=j then (es[i]?).map (fun e=>{ e with key:=.int .i64 q,val:=v }) else es[i]? := by
    intro i
    rw [List.getElem?_modify]
    by_cases hi:i=j
    · subst hi;simp
    · rw [if_neg hi];cases es[i]? <;> simp [Ne.symm hi]
   refine ⟨es.modify j fun e=>{ e with key:=.int .i64 q,val:=v },clock,ks,?_,e3,by simp [e4],by rw [if_pos (List.mem_of_getElem? h1)],fun k=>⟨.inr,fun h=>h.elim (fun e=>e▸List.mem_of_getElem? h1) id⟩,?_,?_,?_,?_⟩
   · have hget:((es.toArray[j]?).map (·.key)).getD (.int .i64 q) = .int .i64 q:=by simp [h2,hkey]
     simp only [Instr.mapUpdate,Sem.run_bind,run_underlying hu,Result.andThen_ok,MapKept.run_getObj_map e2,run_checkKey hku (zdo q),run_findKey hku h3,hget,ziu,MapKept.run_setObj_map _ e2]
     simp
   · intro i k x hik hix
     rw [hgm] at hix
     by_cases hi:i=j
     · subst hi
       rw [if_pos rfl,h2] at hix
       rw [h1] at hik
       simp at hix hik;subst hix hik;rfl
     · rw [if_neg hi] at hix;exact e6 i k x hik hix
   · intro x hx'
     obtain ⟨i,hi,rfl⟩:=List.getElem_of_mem hx'
     have hgi:=hgm i
     rw [List.getElem?_eq_getElem hi] at hgi
     by_cases hij:i=j
     · subst hij
       rw [if_pos rfl,h2,Option.map_some] at hgi
       rw [Option.some.inj hgi];exact e7 x0 (List.mem_of_getElem? h2)
     · rw [if_neg hij] at hgi
       exact e7 _ (List.mem_of_getElem? hgi.symm)
   · have:(es.modify j fun e=>{ e with key:=.int .i64 q,val:=v }).map (·.born)=es.map (·.born):=by
      apply List.ext_getElem?
      intro i
      simp only [List.getElem?_map,hgm]
      by_cases hij:i=j
      · subst hij;rw [if_pos rfl];cases es[i]? <;> rfl
      · rw [if_neg hij]
     rw [this];exact e8
   · intro i k x hik hix
     rw [hgm] at hix
     by_cases hij:i=j
     · subst hij
       rw [if_pos rfl,h2] at hix
       rw [h1] at hik
       simp at hix hik;subst hix hik
       exact .inl ⟨rfl,rfl⟩
     · rw [if_neg hij] at hix
       have hne:k≠q:=by
        rintro rfl
        have h1':=(List.getElem?_eq_some_iff.1 h1)
        have hik':=(List.getElem?_eq_some_iff.1 hik)
        exact hij ((List.getElem_inj (h₀:=hik'.1) (h₁:=h1'.1) e3).1 (hik'.2.trans h1'.2.symm))
       exact .inr ⟨hne,i,hik,hix⟩
theorem zn4 {t kt et:TypeId} (hu:P.underlying t=some (.map kt et)) (hku:P.underlying kt=some (.int .i64)) (I:InvH N C h ρ F M g a w) {x y z:Operand} (ho:o.op = .mapUpdate t x y z∨o.op = .insert t x y z) {id:Nat} {q:Int} {xv:Value} (hx:a.eval x=xv) (hy:a.eval y = .int .i64 q)
 (hmv:Rel h ρ (.mp id) xv) {v:AV} (hvv:Rel h ρ v (a.eval z)) {ty sz n:Nat} {dom:Int→Bool} {m:Int→Nat} {e:Int→Nat→List AV} {a0:AV} (hM:M id=some (.gmap ty sz n dom m e (some (q,a0)))) :
 Good P N C h ρ F M g a o w ⟨.any,[id],[(id,.gmap ty sz (bif dom q then n else n+1) (fun j=>decide (j=q) || dom j) m e (some (q,v)))],some (q=q),none⟩:=by
 obtain ⟨b,es,clock,ks,R,e1,e2,e3,e4,e5,e6,e7,e8,e9,e10,e11,e12,e13⟩:=I.blk id _ hM
 cases hmv with
 | mp _ _ li b' hb hmb=>
  rw [e1] at hb;cases hb;cases hmb
  have hlt:b<w.heap.size:=zgc e2
  obtain ⟨es',clock',ks',f1,f2,f3,f4,f5,f6,f7,f8,f9⟩:=znP (P:=P) hu hku e2 e3 (by rw [e4,e5]) e6 e7 e8 q (a.eval z)
  have hdq:(dom q=true)↔q∈ks:=e9 q
  have hrows:∀ k c v' b',R k=some (c,v')→v'.ownBlock=some b'→b'≠b:=fun k c v' b' hR hb' e=>(e12 k c v' hR).2 (e▸hb')
  refine ⟨undef,{ w with heap:=w.heap.setIfInBounds b (.map es'.toArray clock') },h,ρ,.inr ⟨?_,rfl⟩,I.ziO (w':={ w with heap:=w.heap.setIfInBounds b (.map es'.toArray clock') }) e1 _ rfl rfl rfl (by simp) (fun k hk=>(heap_set e2).2 k (fun e=>hk (by subst e;exact .inl rfl))) ?_,.any _ _⟩
  · unfold execOp
    rcases ho with ho|ho <;> simp only [ho,hx,hy,Sem.run_bind,f1,Result.andThen_ok,Sem.run_pure]
  · refine ⟨b,es',clock',ks',R,e1,by simp [hlt],f2,?_,?_,f6,f7,f8,?_,?_,?_,?_,?_⟩
    · rw [f4]
      by_cases hq:q∈ks
      · simp [hq,hdq.2 hq,e4]
      · have:dom q=false:=by
         cases hd:dom q with
         | false=>rfl
         | true=>exact absurd (hdq.1 hd) hq
        simp [hq,this,e4]
    · rw [← f3,f4]
      by_cases hq:q∈ks
      · simp [hq,hdq.2 hq,e4]
      · have:dom q=false:=by
         cases hd:dom q with
         | false=>rfl
         | true=>exact absurd (hdq.1 hd) hq
        simp [hq,this,e4]
    · intro k
      simp only [Bool.or_eq_true,decide_eq_true_eq,f5,e9 k]
    · intro i k x hik hix
      refine ⟨fun a' ha=>?_,fun ha=>?_⟩
      · cases ha
        rcases f9 i q x hik hix with ⟨_,hxv⟩|⟨hne,_⟩
        · rw [hxv];exact hvv
        · exact absurd rfl hne
      · rcases f9 i k x hik hix with ⟨rfl,_⟩|⟨hne,i0,g1,g2⟩
        · exact absurd rfl (ha v)
        · exact (e10 i0 k x g1 g2).2 (fun a' h'=>by cases h';exact hne rfl)
    · intro k a' ha
      cases ha
      exact ⟨(e11 q a0 rfl).1,fun hd=>by simp at hd⟩
    · intro k c v' hR
      obtain ⟨g1,g2⟩:=e12 k c v' hR
      exact ⟨by simp [g1],g2⟩
    · exact e13.keep (Le.refl h) (fun k c v' b' hR hb'=>(heap_set e2).2 b' (hrows k c v' b' hR hb'))
theorem zl4 (hΓ:zbC P Γ) (I:InvH N C h ρ F M g a w) {t:TypeId} {x y z:Operand} (ho:o.op = .mapUpdate t x y z∨o.op = .insert t x y z) {m k v:AV} (hmv:Rel h ρ m (a.eval x)) (hkv:Rel h ρ k (a.eval y)) (hvv:Rel h ρ v (a.eval z)) {r:R}
 (hr:zk3 Γ mg t m k v=some r) (hm:∀ id,id∈r.rd→M id=mg id) (hc:∀ q,r.cs=some q→q):Good P N C h ρ F M g a o w r:=by
 unfold zk3 at hr
 cases hT:tyOf Γ t with
 | none=>simp [hT] at hr
 | some T=>
 simp only [hT] at hr
 cases hd:T.d <;> simp only [hd] at hr <;> (try (cases hr;done))
 rename_i kt et
 cases hK:tyOf Γ kt with
 | none=>simp [hK] at hr
 | some KT=>
 simp only [hK] at hr
 cases hkd:KT.d <;> simp only [hkd] at hr <;> (try (cases hr;done))
 rename_i ik
 cases ik <;> (try simp only [] at hr) <;> (try (cases hr;done))
 have hu:=(hΓ t T hT).zhY hd
 have hku:=(hΓ kt KT hK).ze0 hkd
 cases k <;> (try simp only [] at hr) <;> (try (cases hr;done))
 rename_i kk q
 cases kk <;> (try simp only [] at hr) <;> (try (cases hr;done))
 generalize hy:a.eval y=yv at hkv
 cases hkv
 generalize hx:a.eval x=xv at hmv
 cases m <;> (try simp only [] at hr) <;> (try (cases hr;done))
 rename_i id
 cases hg:mg id with
 | none=>simp [hg] at hr
 | some bl=>
 cases bl <;> simp only [hg] at hr <;> (try (cases hr;done))
 case gmap ty sz n dom m e out=>
  cases out with
  | none=>simp at hr
  | some p=>
  obtain ⟨k0,a0⟩:=p
  simp only [] at hr
  cases hr
  obtain rfl:q=k0:=hc _ rfl
  exact zn4 hu hku I ho hx hy hmv hvv ((hm id (by simp)).trans hg)
 rename_i zz dom e n
 cases hcl:v.cl with
 | false=>simp [hcl] at hr
 | true=>
 simp only [hcl] at hr
 cases hr
 obtain ⟨b,es,clock,ks,e1,e2,e3,e4,e5,e6,e7,e8,e9,ez,e10⟩:=I.blk id _ ((hm id (by simp)).trans hg)
 cases hmv with
 | mp _ _ li b' hb hmb=>
  rw [e1] at hb;cases hb;cases hmb
  have hlt:b<w.heap.size:=zgc e2
  have fin:∀ (o':Obj),(Instr.mapUpdate t (.map (some b)) (.int .i64 q) (a.eval z)).run P w = .ok () { w with heap:=w.heap.setIfInBounds b o' } →
   zbN h ρ id (.map zz (fun j=>decide (j=q) || dom j) (fun j=>bif decide (j=q) then v else e j) (bif dom q then n else n+1)) { w with heap:=w.heap.setIfInBounds b o' } →
   Good P N C h ρ F M g a o w ⟨.any,[id],[(id,.map zz (fun j=>decide (j=q) || dom j) (fun j=>bif decide (j=q) then v else e j) (bif dom q then n else n+1))],none,none⟩:=by
   intro o' hrun hblk
   refine ⟨undef,{ w with heap:=w.heap.setIfInBounds b o' },h,ρ,.inr ⟨?_,rfl⟩,I.turn (w':={ w with heap:=w.heap.setIfInBounds b o' }) e1 _ rfl rfl rfl (by simp) (fun k hk=>(heap_set e2).2 k hk) hblk,.any _ _⟩
   unfold execOp
   rcases ho with ho|ho <;> simp only [ho,hx,hy,Sem.run_bind,hrun,Result.andThen_ok,Sem.run_pure]
  have hrel0:Rel h ρ0 v (a.eval z):=hvv.zdO hcl
  rcases find_spec (by rw [e4,e5]) e6 q with ⟨h1,h2⟩|⟨j,x0,h1,h2,h3⟩
  · have hdq:dom q=false:=by
     cases hdq:dom q with
     | false=>rfl
     | true=>exact absurd ((e9 q).1 hdq) h1
    refine fin (.map (es.toArray.push { key:=.int .i64 q,val:=a.eval z,born:=clock }) (clock+1)) ?_ ?_
    · simp only [Instr.mapUpdate,Sem.run_bind,run_underlying hu,Result.andThen_ok,MapKept.run_getObj_map e2,run_checkKey hku (zdo q),run_findKey hku h2,MapKept.run_setObj_map _ e2]
    · refine ⟨b,es++[{ key:=.int .i64 q,val:=a.eval z,born:=clock }],clock+1,ks++[q],e1,by simp [hlt],?_,by simp [e4,hdq],by simp [e5,hdq],?_,?_,?_,?_,?_,?_⟩
      · rw [List.nodup_append];exact ⟨e3,by simp,by simp;rintro c hcm rfl;exact h1 hcm⟩
      · intro i k x hik hix
        by_cases hi:i<ks.length
        · rw [List.getElem?_append_left hi] at hik
          rw [List.getElem?_append_left (by omega)] at hix
          exact e6 i k x hik hix
        · rw [List.getElem?_append_right (by omega)] at hik
          rw [List.getElem?_append_right (by omega)] at hix
          have hi0:i - ks.length=0:=by
           have:=(List.getElem?_eq_some_iff.1 hik).1;simp at this;omega
          rw [hi0] at hik
          have hi1:i - es.length=0:=by omega
          rw [hi1] at hix
          simp at hik hix;subst hik hix;rfl
      · intro x hx'
        rcases List.mem_append.1 hx' with p|p
        · have:=e7 x p;omega
        · simp at p;subst p;simp
      · simp only [List.map_append,List.map_cons,List.map_nil]
        rw [List.nodup_append]
        refine ⟨e8,by simp,?_⟩
        intro c hc d hd' heq
        simp at hd';subst hd';subst heq
        obtain ⟨x,p1,p2⟩:=List.mem_map.1 hc
        have:=e7 x p1;omega
      · intro k
        simp only [Bool.or_eq_true,decide_eq_true_eq,List.mem_append,List.mem_singleton,e9 k]
        exact Or.comm
      · intro k hkf
        simp only [Bool.or_eq_false_iff,decide_eq_false_iff_not] at hkf
        simp only [hkf.1,decide_false,cond_false]
        exact ez k hkf.2
      · intro i k x hik hix
        by_cases hi:i<ks.length
        · rw [List.getElem?_append_left hi] at hik
          rw [List.getElem?_append_left (by omega)] at hix
          have hne:k≠q:=by rintro rfl;exact h1 (List.mem_of_getElem? hik)
          simp only [hne,decide_false,cond_false]
          exact e10 i k x hik hix
        · rw [List.getElem?_append_right (by omega)] at hik
          rw [List.getElem?_append_right (by omega)] at hix
          have hi0:i - ks.length=0:=by
           have:=(List.getElem?_eq_some_iff.1 hik).1;simp at this;omega
          rw [hi0] at hik
          have hi1:i - es.length=0:=by omega
          rw [hi1] at hix
          simp at hik hix;subst hik hix
          simp only [decide_true,cond_true]
          exact hrel0
  · have hdq:dom q=true:=(e9 q).2 (List.mem_of_getElem? h1)
    have hkey:=e6 j q x0 h1 h2
    refine fin (.map (es.toArray.modify j fun e=>{ e with key:=.int .i64 q,val:=a.eval z }) clock) ?_ ?_
    · have hget:((es.toArray[j]?).map (·.key)).getD (.int .i64 q) = .int .i64 q:=by simp [h2,hkey]
      simp only [Instr.mapUpdate,Sem.run_bind,run_underlying hu,Result.andThen_ok,MapKept.run_getObj_map e2,run_checkKey hku (zdo q),run_findKey hku h3,hget,ziu,MapKept.run_setObj_map _ e2]
    · have hgm:∀ i,(es.modify j fun e=>{ e with key:=.int .i64 q,val:=a.eval z })[i]? = if i=j then (es[i]?).map (fun e=>{ e with key:=.int .i64 q,val:=a.eval z }) else es[i]? := by
       intro i
       rw [List.getElem?_modify]
       by_cases hi:i=j
       · subst hi;simp
       · rw [if_neg hi];cases es[i]? <;> simp [Ne.symm hi]
      refine ⟨b,es.modify j fun e=>{ e with key:=.int .i64 q,val:=a.eval z },clock,ks,e1,by simp [hlt],e3,by simp [e4,hdq],by simp [e5,hdq],?_,?_,?_,?_,?_,?_⟩
      · intro i k x hik hix
        rw [hgm] at hix
        by_cases hi:i=j
        · subst hi
          rw [if_pos rfl,h2] at hix
          rw [h1] at hik
          simp at hix hik;subst hix hik;rfl
        · rw [if_neg hi] at hix;exact e6 i k x hik hix
      · intro x hx'
        obtain ⟨i,hi,rfl⟩:=List.getElem_of_mem hx'
        have hgi:=hgm i
        rw [List.getElem?_eq_getElem hi] at hgi
        by_cases hij:i=j
        · subst hij
          rw [if_pos rfl,h2,Option.map_some] at hgi
          rw [Option.some.inj hgi];exact e7 x0 (List.mem_of_getElem? h2)
        · rw [if_neg hij] at hgi
          exact e7 _ (List.mem_of_getElem? hgi.symm)
      · have:(es.modify j fun e=>{ e with key:=.int .i64 q,val:=a.eval z }).map (·.born)=es.map (·.born):=by
         apply List.ext_getElem?
         intro i
         simp only [List.getElem?_map,hgm]
         by_cases hij:i=j
         · subst hij;rw [if_pos rfl];cases es[i]? <;> rfl
         · rw [if_neg hij]
        rw [this];exact e8
      · intro k
        simp only [Bool.or_eq_true,decide_eq_true_eq]
        constructor
        · rintro (rfl|h')
          · exact List.mem_of_getElem? h1
          · exact (e9 k).1 h'
        · intro h';exact .inr ((e9 k).2 h')
      · intro k hkf
        simp only [Bool.or_eq_false_iff,decide_eq_false_iff_not] at hkf
        simp only [hkf.1,decide_false,cond_false]
        exact ez k hkf.2
      · intro i k x hik hix
        rw [hgm] at hix
        by_cases hij:i=j
        · subst hij
          rw [if_pos rfl,h2] at hix
          rw [h1] at hik
          simp at hix hik;subst hix hik
          simp only [decide_true,cond_true]
          exact hrel0
        · rw [if_neg hij] at hix
          have hne:k≠q:=by
           rintro rfl
           have h1':=(List.getElem?_eq_some_iff.1 h1)
           have hik':=(List.getElem?_eq_some_iff.1 hik)
           exact hij ((List.getElem_inj (h₀:=hik'.1) (h₁:=h1'.1) e3).1 (hik'.2.trans h1'.2.symm))
          simp only [hne,decide_false,cond_false]
          exact e10 i k x hik hix
end
end Go.Av
end
