/- Texts of the framework, or of the plain law, one behind another. -/
import Derived.Test.YtakjeajlmlmkeaaGreatFr4
import Derived.ProofKit
import Derived.OpenShut
import Derived.ReadAgain
import Derived.ChangeStays
import Derived.SizedLaws
import Derived.Carry
import Derived.Below
import Derived.ChangeSame
import Derived.Test.YtakjeajlmlmkeaaGreatFr1
/- The bridge: from what an argument reads as (a row's data) to the abstract value that it is; from a contract to a row's statement that a law returns true and leaves its arguments as they were. -/
section
set_option linter.all false
namespace Go.Av
open Go.RowKit Go.WideShapes Go.ChangeShapes
def Wt {H:Type} (P:Program) (t:TypeId) (d:DataW H):Prop:=∀ q∈d.weights P t,q≤reachBytes
theorem znC {H:Type} {P:Program} {e:TypeId}:∀ {ds:List (DataW H)} {d:DataW H},d∈ds→∀ q∈d.weights P e,q∈DataW.weightsAll P e ds
 | x::ds,d,h,q,hq=>by
  simp only [DataW.weightsAll,List.mem_append]
  rcases List.mem_cons.1 h with rfl|h
  · exact .inl hq
  · exact .inr (znC h q hq)
theorem znB {H:Type} {P:Program}:∀ {ts us:List TypeId} {ds gs:List (DataW H)},∀ q∈DataW.weightsEach P ts ds,q∈DataW.weightsEach P (ts++us) (ds++gs)
 | [],us,ds,gs,q,h=>by cases ds <;> simp [DataW.weightsEach] at h
 | t::ts,us,[],gs,q,h=>by simp [DataW.weightsEach] at h
 | t::ts,us,d::ds,gs,q,h=>by
  simp only [DataW.weightsEach,List.cons_append,List.mem_append] at h ⊢
  rcases h with h|h
  · exact .inl h
  · exact .inr (znB q h)
structure Opn (P:Program) (t:TypeId) (sz:Nat) {X:Type} (e:X→List AV) (ok:X→Prop):Prop where
 len:∀ x,(e x).length=sz
 cells:P.cellsOf t=sz
 read:∀ (H:Type) (enc:TypeId×Value→H) (W:World) (n:Nat) (cs:List Value) (r:DataW H×List MemPlace),DataW.trod enc P W 0 (fun _=>true) true n t cs=some r→Wt P t r.1 →
  ∃ x,RelL (fun b=>W.heap[b]?) ρ0 (e x) cs∧ok x∧∀ v∈cs,v.oneCell'=true
theorem Opn.int {P:Program} {t:TypeId} (ht:P.underlying t=some (.int .i64)) (hc:P.cellsOf t=1):Opn P t 1 (fun x:Int=>[.int .i64 x]) inI:=
 ⟨fun _=>rfl,hc,fun H enc W n cs r h _=>by
  obtain ⟨x,rfl,rfl,hw⟩:=DataW.trod_int ht h
  refine ⟨x,RelL.cons (.int _ _ _) (RelL.nil _ _),?_,fun v hv=>?_⟩
  · have:=bounds_i64 hw
    exact this
  · simp at hv;subst hv;rfl⟩
structure OpnF (P:Program) (fs:List (Nat×TypeId)) (off sz:Nat) {X:Type} (e:X→List AV) (ok:X→Prop):Prop where
 len:∀ x,(e x).length=sz
 read:∀ (H:Type) (enc:TypeId×Value→H) (W:World) (n:Nat) (cs:List Value),cs.length=off+sz →
  (∀ f∈fs,∃ r,DataW.trod enc P W 0 (fun _=>true) true n f.2 ((cs.drop f.1).take (P.cellsOf f.2))=some r∧Wt P f.2 r.1) →
  ∃ x,RelL (fun b=>W.heap[b]?) ρ0 (e x) (cs.drop off)∧ok x∧∀ v∈cs.drop off,v.oneCell'=true
theorem OpnF.nil {P:Program} {off:Nat}:OpnF P [] off 0 (fun _:Unit=>[]) (fun _=>True):=
 ⟨fun _=>rfl,fun H enc W n cs hl _=>⟨(),by rw [List.drop_eq_nil_of_le (by omega)];exact RelL.nil _ _,trivial,by rw [List.drop_eq_nil_of_le (by omega)];simp⟩⟩
theorem OpnF.cons {P:Program} {t:TypeId} {fs:List (Nat×TypeId)} {off s sz:Nat} {X Y:Type} {e:X→List AV} {ok:X→Prop} {e':Y→List AV} {ok':Y→Prop}
 (h:Opn P t s e ok) (h':OpnF P fs (off+s) sz e' ok'):OpnF P ((off,t)::fs) off (s+sz) (fun x:X×Y=>e x.1++e' x.2) (fun x=>ok x.1∧ok' x.2):=
 ⟨fun x=>by rw [List.length_append,h.len,h'.len],fun H enc W n cs hl hr=>by
  obtain ⟨r,hr1,hr2⟩:=hr (off,t) (List.mem_cons_self ..)
  obtain ⟨x,h1,h2,h3⟩:=h.read H enc W n _ r hr1 hr2
  obtain ⟨y,k1,k2,k3⟩:=h'.read H enc W n cs (by omega) (fun f hf=>hr f (List.mem_cons_of_mem _ hf))
  have e1:cs.drop off=(cs.drop off).take s++cs.drop (off+s):=by
   rw [← List.drop_drop,List.take_append_drop]
  rw [h.cells] at h1 h3
  refine ⟨(x,y),?_,⟨h2,k2⟩,fun v hv=>?_⟩
  · rw [e1];exact RelL.append h1 k1
  · rw [e1,List.mem_append] at hv
    exact hv.elim (h3 v) (k3 v)⟩
theorem Opn.struct {P:Program} {t:TypeId} {fs:Array Field} {sz:Nat} {X Y:Type} {e:X→List AV} {ok:X→Prop} (ht:P.underlying t=some (.struct fs)) (hc:P.cellsOf t=sz)
 (h:OpnF P (fs.toList.map fun f=>(f.offset,f.type)) 0 sz e ok) (f:X→Y) {e':Y→List AV} {ok':Y→Prop}
 (hl:∀ y,(e' y).length=sz) (he:∀ x,e' (f x)=e x) (ho:∀ x,ok x→ok' (f x)):Opn P t sz e' ok':=
 ⟨hl,hc,fun H enc W n cs r hr hz=>by
  obtain ⟨xs,m,rfl,rfl,hlen,hx,hi⟩:=DataW.trod_struct ht hr
  obtain ⟨x,h1,h2,h3⟩:=h.read H enc W m cs (by rw [hlen,hc];omega) (fun g hg=>by
   obtain ⟨f0,hf0,rfl⟩:=List.mem_map.1 hg
   obtain ⟨i,hi1,hi2⟩:=List.getElem_of_mem hf0
   have hh:=hi i f0 (by rw [← hi2];simp)
   have hxi:i<xs.length:=by rw [hx];simpa using hi1
   refine ⟨xs[i]'hxi,?_,fun q hq=>hz q ?_⟩
   · rw [hh,List.getElem?_eq_getElem]
   · simp only [DataW.weights,ht]
     exact DataW.weights_mem_each (j:=i) (t:=f0.type) (d:=(xs[i]'hxi).1) (by rw [List.getElem?_map,List.getElem?_eq_getElem hi1,hi2];rfl) (by rw [List.getElem?_map,List.getElem?_eq_getElem hxi];rfl) q hq)
  rw [List.drop_zero] at h1 h3
  exact ⟨f x,by rw [he];exact h1,ho x h2,h3⟩⟩
def arrF (s:Nat) (t:TypeId) (off:Nat):Nat→List (Nat×TypeId)
 | 0=>[]
 | n+1=>(off,t)::arrF s t (off+s) n
theorem zmH {s:Nat} {t:TypeId}:∀ {n off:Nat} {f:Nat×TypeId},f∈arrF s t off n→∃ i,i<n∧f=(off+i * s,t)
 | 0,_,_,h=>by cases h
 | n+1,off,f,h=>by
  rcases List.mem_cons.1 h with rfl|h
  · exact ⟨0,by omega,by simp⟩
  · obtain ⟨i,hi,rfl⟩:=zmH h
    exact ⟨i+1,by omega,by rw [Nat.add_mul];simp;omega⟩
theorem Opn.array {P:Program} {t u:TypeId} {n s sz:Nat} {X Y:Type} {e:X→List AV} {ok:X→Prop} (ht:P.underlying t=some (.array n u)) (hc:P.cellsOf t=sz) (hu:P.cellsOf u=s)
 (h:OpnF P (arrF s u 0 n) 0 sz e ok) (f:X→Y) {e':Y→List AV} {ok':Y→Prop}
 (hl:∀ y,(e' y).length=sz) (he:∀ x,e' (f x)=e x) (ho:∀ x,ok x→ok' (f x)):Opn P t sz e' ok':=
 ⟨hl,hc,fun H enc W m cs r hr hz=>by
  obtain ⟨xs,m,rfl,rfl,hlen,hx,hi⟩:=DataW.trod_array ht hr
  obtain ⟨x,h1,h2,h3⟩:=h.read H enc W m cs (by rw [hlen,hc];omega) (fun g hg=>by
   obtain ⟨i,hi1,rfl⟩:=zmH hg
   have hh:=hi i hi1
   have hxi:i<xs.length:=by rw [hx];exact hi1
   refine ⟨xs[i]'hxi,?_,fun q hq=>hz q ?_⟩
   · rw [hu] at hh ⊢
     simp only [Nat.zero_add]
     rw [hh,List.getElem?_eq_getElem]
   · simp only [DataW.weights,ht]
     exact znC (List.mem_map.2 ⟨_,List.getElem_mem hxi,rfl⟩) q hq)
  rw [List.drop_zero] at h1 h3
  exact ⟨f x,by rw [he];exact h1,ho x h2,h3⟩⟩
theorem zje {X:Type} [Inhabited X] {p:Nat→X→Prop}:∀ (n:Nat),(∀ i,i<n→∃ x,p i x)→∃ l:List X,l.length=n∧∀ i,i<n→p i (l.getD i default)
 | 0,_=>⟨[],rfl,fun i hi=>by omega⟩
 | n+1,h=>by
  obtain ⟨l,h1,h2⟩:=zje n (fun i hi=>h i (by omega))
  obtain ⟨x,hx⟩:=h n (by omega)
  refine ⟨l++[x],by simp [h1],fun i hi=>?_⟩
  by_cases hn:i<n
  · have:(l++[x]).getD i default=l.getD i default:=by
     simp [List.getD_eq_getElem?_getD,List.getElem?_append_left (h1▸hn)]
    rw [this];exact h2 i hn
  · have hi':i=n:=by omega
    subst hi'
    have:(l++[x]).getD i default=x:=by
     simp [List.getD_eq_getElem?_getD,List.getElem?_append_right (Nat.le_of_eq h1),h1]
    rw [this];exact hx
theorem znv {w:World} {a:Addr} {n:Nat} {cs:List Value} (h:w.cells? 0 a n=some cs):cs.length=n∧∀ j,j<n→w.cell? (a.add j)=cs[j]? := by
 unfold World.cells? at h
 rw [if_pos (Nat.zero_le _)] at h
 exact ⟨by rw [mapM_some_length h];simp,fun j hj=>mapM_some_get h j j (by simp [hj])⟩
theorem Opn.slice {P:Program} {t u:TypeId} {s:Nat} {X:Type} [Inhabited X] {e:X→List AV} {ok:X→Prop} {k:Nat} (ht:P.underlying t=some (.slice u)) (hc:P.cellsOf t=1) (h:Opn P u s e ok) (hs:0<s) (hb:1≤k∧k≤P.bytesOf u) :
 Opn P t 1 (fun l:List X=>[roL s e l]) (fun l=>l.length * k≤140737488351232∧∀ x∈l,ok x):=
 ⟨fun _=>rfl,hc,fun H enc W m cs r hr hz=>by
  rcases DataW.trod_slice ht hr with ⟨rfl,_⟩|⟨a,len,cap,elems,rest,n,rfl,rfl,rfl,-,hlc,hcm,hel,hi,-,-⟩
  · refine ⟨[],RelL.cons (.ro _ _ _ _ _ _ (fun _=>rfl) ⟨Nat.le_refl _,Nat.zero_le _⟩ (fun i hi=>by cases hi) (fun i j hi=>by cases hi) (fun k v hk=>by simp at hk) (fun i j c v hi=>by cases hi)) (RelL.nil _ _),⟨by simp,by simp⟩,fun v hv=>?_⟩
    simp at hv;subst hv;rfl
  · have hz:∀ q∈DataW.weights P t (.slice (elems.map (·.1)) (rest.map (·.1)):DataW H),q≤reachBytes:=hz
    have ew:DataW.weights P t (.slice (elems.map (·.1)) (rest.map (·.1)):DataW H)=((elems.map (·.1)).length+(rest.map (·.1)).length) * P.bytesOf u::(DataW.weightsAll P u (elems.map (·.1))++DataW.weightsAll P u (rest.map (·.1))):=by simp only [DataW.weights,ht]
    rw [ew] at hz
    obtain ⟨l,hl,hp⟩:=zje (X:=X) (p:=fun i x=>∃ ys:List Value,W.cells? 0 (a.add (i * s)) s=some ys∧RelL (fun b=>W.heap[b]?) ρ0 (e x) ys∧ok x∧∀ v∈ys,v.oneCell'=true) len (fun i hi'=>by
     have:=hi i hi'
     rw [h.cells,List.getElem?_eq_getElem (by omega)] at this
     obtain ⟨ys,h1,h2⟩:=Option.bind_eq_some_iff.1 this
     obtain ⟨x,k1,k2,k3⟩:=h.read H enc W n ys _ h2 (fun q hq=>hz q (List.mem_cons_of_mem _ (List.mem_append_left _ (znC (List.mem_map.2 ⟨_,List.getElem_mem _,rfl⟩) q hq))))
     exact ⟨x,ys,h1,k1,k2,k3⟩)
    have hbig0:len * k≤140737488351232:=by
     have h1:=hz _ List.mem_cons_self
     rw [List.length_map,List.length_map] at h1
     have h2:reachBytes=140737488351232:=rfl
     have h3:len * k≤(elems.length+rest.length) * P.bytesOf u:=Nat.mul_le_mul (by omega) hb.2
     omega
    have hbig:len≤140737488351232:=Nat.le_trans (Nat.le_mul_of_pos_right _ hb.1) hbig0
    subst hl
    have cell:∀ i j,i<l.length→j<s→∃ ys:List Value,ys.length=s∧RelL (fun b=>W.heap[b]?) ρ0 (e (l.getD i default)) ys∧(∀ v∈ys,v.oneCell'=true)∧hcell (fun b=>W.heap[b]?) (some a) (i * s+j)=ys[j]? := by
     intro i j hi' hj
     obtain ⟨ys,h1,h2,_,h4⟩:=hp i hi'
     obtain ⟨k1,k2⟩:=znv h1
     refine ⟨ys,k1,h2,h4,?_⟩
     rw [← k2 j hj,Addr.add_add]
     rfl
    refine ⟨l,RelL.cons (.ro _ _ _ _ _ _ (fun h=>by cases h) ⟨hlc,by omega⟩ (fun i _=>h.len _) (fun i j hi' hj=>?_) (fun k v hk hv=>?_) (fun i j c v hi' hcj hv=>?_)) (RelL.nil _ _),⟨hbig0,fun x hx=>?_⟩,fun v hv=>?_⟩
    · obtain ⟨ys,k1,_,_,k4⟩:=cell i j hi' hj
      rw [k4,List.getElem?_eq_getElem (by omega)];rfl
    · obtain ⟨ys,k1,_,k3,k4⟩:=cell (k / s) (k % s) (by rw [Nat.div_lt_iff_lt_mul hs];exact hk) (Nat.mod_lt _ hs)
      rw [Nat.mul_comm,Nat.div_add_mod] at k4
      rw [k4] at hv
      exact k3 v (List.mem_of_getElem? hv)
    · have hj:j<s:=by
       have:=(List.getElem?_eq_some_iff.1 hcj).1
       rwa [h.len] at this
      obtain ⟨ys,k1,k2,_,k4⟩:=cell i j hi' hj
      rw [k4] at hv
      exact k2.2 j c v hcj hv
    · obtain ⟨i,hi1,rfl⟩:=List.getElem_of_mem hx
      obtain ⟨_,_,_,h3,_⟩:=hp i (by omega)
      rw [List.getD_eq_getElem?_getD,List.getElem?_eq_getElem hi1] at h3
      exact h3
    · simp at hv;subst hv;rfl⟩
def OpnT (P:Program) (t:TypeId) {X:Type} (e:X→AV) (ok:X→Prop):Prop:=
 ∀ (H:Type) (enc:TypeId×Value→H) (W:World) (base:Nat) (v:Value) (d:DataW H) (ps:List MemPlace),Value.okWide P W .any base t v→DataW.Trod enc P W 0 (fun _=>true) true t v d ps→Wt P t d →
  ∃ x,Rel (fun b=>W.heap[b]?) ρ0 (e x) v∧ok x
theorem OpnT.struct {P:Program} {t:TypeId} {fs:Array Field} {sz:Nat} {X:Type} {e:X→List AV} {ok:X→Prop} (ht:P.underlying t=some (.struct fs)) (h:Opn P t sz e ok):OpnT P t (fun x=>.agg (e x)) ok:=by
 intro H enc W base v d ps hv hd hz
 obtain ⟨cs,rfl,_⟩:=okWide_struct ht hv
 obtain ⟨n,hn⟩:=hd
 obtain ⟨x,h1,h2,_⟩:=h.read H enc W n _ _ hn hz
 refine ⟨x,?_,h2⟩
 have:(Value.agg cs) = .agg (Value.agg cs).cells.toList.toArray:=by simp [Value.cells]
 rw [this]
 exact .agg _ _ _ h1.1 h1.2
theorem OpnT.array {P:Program} {t u:TypeId} {n sz:Nat} {X:Type} {e:X→List AV} {ok:X→Prop} (ht:P.underlying t=some (.array n u)) (h:Opn P t sz e ok):OpnT P t (fun x=>.agg (e x)) ok:=by
 intro H enc W base v d ps hv hd hz
 obtain ⟨cs,rfl⟩:∃ cs,v = .agg cs:=by
  simp only [Value.okWide,ht] at hv
  obtain ⟨cs,h1,_⟩:=hv
  exact ⟨cs,h1⟩
 obtain ⟨n,hn⟩:=hd
 obtain ⟨x,h1,h2,_⟩:=h.read H enc W n _ _ hn hz
 refine ⟨x,?_,h2⟩
 have:(Value.agg cs) = .agg (Value.agg cs).cells.toList.toArray:=by simp [Value.cells]
 rw [this]
 exact .agg _ _ _ h1.1 h1.2
theorem OpnT.int {P:Program} {t:TypeId} (ht:P.underlying t=some (.int .i64)):OpnT P t (fun x:Int=>.int .i64 x) inI:=by
 intro H enc W base v d ps hv hd hz
 obtain ⟨n,rfl⟩:=okWide_int ht hv
 obtain ⟨m,hn⟩:=hd
 obtain ⟨x,h1,_,hw⟩:=DataW.trod_int ht hn
 simp only [Value.cells,List.cons.injEq,Value.int.injEq,and_true,true_and] at h1
 subst h1
 exact ⟨n,.int _ _ _,bounds_i64 hw⟩
theorem OpnT.slice {P:Program} {t u:TypeId} {s:Nat} {X:Type} [Inhabited X] {e:X→List AV} {ok:X→Prop} {k:Nat} (ht:P.underlying t=some (.slice u)) (hc:P.cellsOf t=1) (h:Opn P u s e ok) (hs:0<s) (hb:1≤k∧k≤P.bytesOf u) :
 OpnT P t (fun l:List X=>roL s e l) (fun l=>l.length * k≤140737488351232∧∀ x∈l,ok x):=by
 intro H enc W base v d ps hv hd hz
 obtain ⟨a,len,cap,rfl⟩:=okWide_slice ht hv
 obtain ⟨n,hn⟩:=hd
 obtain ⟨x,h1,h2,_⟩:=(Opn.slice ht hc h hs hb).read H enc W n _ _ hn hz
 exact ⟨x,h1.2 0 _ _ (by simp) (by simp [Value.cells]),h2⟩
def OpnA (P:Program) (ts:List TypeId) {X:Type} (e:X→List AV) (ok:X→Prop):Prop:=
 ∀ (H:Type) (enc:TypeId×Value→H) (W:World) (base:Nat) (vs:List Value) (ds:List (DataW H)) (ps:List MemPlace),(∀ (j:Nat) t v,ts[j]? = some t→vs[j]? = some v→Value.okWide P W .any base t v) →
  DataW.TrodAll enc P W 0 (fun _=>true) true ts vs ds ps→(∀ q∈DataW.weightsEach P ts ds,q≤reachBytes)→ds.length=ts.length∧∃ x,RelL (fun b=>W.heap[b]?) ρ0 (e x) vs∧ok x
theorem OpnA.nil {P:Program}:OpnA P [] (fun _:Unit=>[]) (fun _=>True):=by
 intro H enc W base vs ds ps _ h _
 obtain ⟨rfl,rfl,_⟩:=trodAll_nil h
 exact ⟨rfl,(),RelL.nil _ _,trivial⟩
theorem OpnA.cons {P:Program} {t:TypeId} {ts:List TypeId} {X Y:Type} {e:X→AV} {ok:X→Prop} {e':Y→List AV} {ok':Y→Prop} (h:OpnT P t e ok) (h':OpnA P ts e' ok') :
 OpnA P (t::ts) (fun x:X×Y=>e x.1::e' x.2) (fun x=>ok x.1∧ok' x.2):=by
 intro H enc W base vs ds ps hv hA hz
 obtain ⟨v,vs',d,ds',p,q,rfl,rfl,rfl,h1,h2⟩:=trodAll_cons hA
 obtain ⟨x,k1,k2⟩:=h H enc W base v d p (hv 0 t v (by simp) (by simp)) h1 (fun q hq=>hz q (by simp only [DataW.weightsEach,List.mem_append];exact .inl hq))
 obtain ⟨hl,y,k3,k4⟩:=h' H enc W base vs' ds' q (fun j t' v' a b=>hv (j+1) t' v' (by simpa using a) (by simpa using b)) h2 (fun q hq=>hz q (by simp only [DataW.weightsEach,List.mem_append];exact .inr hq))
 exact ⟨by simp [hl],(x,y),RelL.cons k1 k3,k2,k4⟩
theorem zna {H:Type} {enc:TypeId×Value→H} {P:Program} {f:Func} {s:ChangeSpec} {apart fresh handsOn again:Bool} {W W':World} {args:Array Value} {v:Value} {ds gs:List (DataW H)} {before pa pv:List MemPlace}
 (hW:DataW.Whole enc P f.params.toList s.vars apart W args.toList ds gs before)
 (hres:∀ (b:Nat) (sp:Nat→Bool) (hd:Bool),DataW.TrodAll enc P W' b sp hd f.resultTypes.toList (v.resultList f.resultTypes.size) (s.fn H (ds++gs)).results [])
 (hargs:∀ sp:Nat→Bool,(∀ p∈before,sp p.block=true)→DataW.TrodAll enc P W' 0 sp true f.params.toList args.toList (s.fn H (ds++gs)).args pa)
 (hvars:∀ sp:Nat→Bool,(∀ p∈before,sp p.block=true)→DataW.TrodVars enc P W' sp s.vars (s.fn H (ds++gs)).vars pv)
 (hps:before=pa++pv) (hb:Below W.heap.size W W')
 (hok:∀ (j:Nat) (t:TypeId) (r:Value),f.resultTypes[j]? = some t→(v.resultList f.resultTypes.size)[j]? = some r→Value.okWide P W' .any 0 t r) :
 s.post enc P f apart fresh handsOn again W args v W':=by
 have hlt:∀ p∈before,p.block<W.heap.size:=fun p hp=>hW.lt p hp
 have hold:∀ p∈before,(fun b=>decide (b<W.heap.size)) p.block=true:=fun p hp=>by simpa using hlt p hp
 refine ⟨ds,gs,before,[],pa,pv,hW,hres _ _ _,hargs _ hold,hvars _ hold,World.keptBut_mono (fun p hp=>⟨hp,?_⟩) (hb.frame (· ∈ before)),fun _=>?_⟩
 · rw [hps,List.mem_append] at hp
   exact Or.inr hp
 · obtain ⟨_,_,_,_,_,hz,hn⟩:=hW
   refine ⟨hok,_,_,([]++pa)++pv,⟨[]++pa,pv,trodAll_append (hargs _ (fun _ _=>rfl)) (hres _ _ _),hvars _ (fun _ _=>rfl),rfl,?_,?_⟩,?_⟩
   · intro b off hp
     have hin:MemPlace.cell b off∈before:=by rw [hps];simpa using hp
     rw [hb.frozen (hlt _ hin)]
     exact hz b off hin
   · intro ha
     have:=hn ha
     rw [hps] at this
     simpa using this
   · intro p hp _
     rw [hps]
     simpa using hp
theorem zhr {H:Type} {enc:TypeId×Value→H} {P:Program} {w w':World} {base:Nat} {spare:Nat→Bool} {held:Bool}:∀ {ts:List TypeId} {vs:List Value} {ds:List (DataW H)} {ps:List MemPlace},
 DataW.TrodAll enc P w base spare held ts vs ds ps→(∀ p∈ps,w.sameAt w' p)→DataW.TrodAll enc P w' base spare held ts vs ds ps
 | [],[],[],_,h,_=>h
 | _::_,_::_,_::_,_,⟨p,q,⟨n,h1⟩,h2,e⟩,hs=>⟨p,q,⟨n,DataW.trod_carry n _ _ _ h1 (fun x hx=>hs x (by rw [e];exact List.mem_append_left _ hx))⟩,
  zhr h2 (fun x hx=>hs x (by rw [e];exact List.mem_append_right _ hx)),e⟩
theorem zod {P:Program} {f:FuncId} {fn:Func} {s:ChangeSpec} {apart fresh handsOn again:Bool} {X:Type} {e:X→List AV} {ok:X→Prop} {tb:TypeId}
 (hkids:Kids P (· < P.types.size)) (hfull:∀ t e,t<P.types.size→P.underlying t=some (.slice e)→0<P.cellsOf e) (hp:fn.params.toList.all (· < P.types.size)=true)
 (hA:OpnA P fn.params.toList e ok) (hs:s.vars=[]) (hfn:∀ (H:Type) (ds:List (DataW H)),ds.length=fn.params.toList.length→s.fn H ds=⟨[.lit (.bool true)],ds,[]⟩)
 (hr:fn.resultTypes = #[tb]) (htb:P.underlying tb=some .bool) (hC:∀ x,ok x→Ctr P f (e x) (.bool true))
 (H:Type) (enc:TypeId×Value→H) (W:World) (base:Nat) (args:Array Value) (ds gs:List (DataW H)) (before:List MemPlace)
 (hval:∀ (j:Nat) t v,fn.params[j]? = some t→args[j]? = some v→Value.okWide P W .any base t v) (hW:DataW.Whole enc P fn.params.toList s.vars apart W args.toList ds gs before)
 (hbig:(DataW.weightsEach P (fn.params.toList++s.plain.varTypes P) (ds++gs)).all (· ≤ reachBytes)=true) :
 Calls P f args W fun e W'=>∃ v,e = .returned v∧s.post enc P fn apart fresh handsOn again W args v W':=by
 obtain ⟨p,q,hT,hV,hps,hz,hn⟩:=id hW
 have hV':=hV
 rw [hs] at hV'
 obtain ⟨rfl,rfl⟩:=trodVars_none hV'
 obtain ⟨hl,x,hx,hok⟩:=hA H enc W base args.toList ds p (fun j t v a b=>hval j t v (by simpa using a) (by simpa using b)) hT (fun q hq=>by have:=List.all_eq_true.1 hbig q (znB q hq);simpa using this)
 have hc:=((hC x hok).2 (fun b=>W.heap[b]?) W args.toList hx (fun b o h=>h)).calls (fun k d hd=>by cases hd)
 rw [Array.toArray_toList] at hc
 refine hc.mono fun en W' hpost=>?_
 cases en with
 | panicked c=>exact hpost.elim
 | outgrown=>exact hpost.elim
 | returned v=>
  obtain ⟨h',ρ',hb,_,_,hv,_⟩:=hpost
  cases hv
  refine ⟨_,rfl,zna (pa:=p) (pv:=[]) hW (fun b sp hd=>?_) (fun sp hsp=>?_) (fun sp hsp=>?_) hps hb (fun j t r h1 h2=>?_)⟩
  · rw [List.append_nil,hfn H ds hl,hr]
    exact ⟨[],[],shut_bool htb true,rfl,rfl⟩
  · rw [List.append_nil,hfn H ds hl]
    have hlt:∀ y∈p,y.block<W.heap.size:=fun y hy=>hW.lt y (by rw [hps];exact List.mem_append_left _ hy)
    exact zhr (DataW.TrodAll.respare hkids hfull (fun t ht=>by simpa using List.all_eq_true.1 hp t ht) hT (fun y hy=>hsp y (by rw [hps];exact List.mem_append_left _ hy))) (fun y hy=>hb.same (hlt y hy))
  · rw [List.append_nil,hfn H ds hl,hs]
    rfl
  · rw [hr] at h1 h2
    have hj:j=0:=by
     have:=(Array.getElem?_eq_some_iff.1 h1).1
     simpa using this
    subst hj
    simp [Value.resultList] at h1 h2
    subst h1 h2
    simp [Value.okWide,htb,Cell.okWide,Cell.ok]
end Go.Av
end
/- Printed by gen.py. -/
section
set_option linter.all false
set_option linter.unusedVariables false
namespace Go.Sp
open Go.Av
structure Range where
 Lo:Int
 Hi:Int
 deriving Inhabited,DecidableEq
structure Batch where
 Id:Int
 Life:Range
 deriving Inhabited,DecidableEq
structure Mantle where
 Source:Int
 Lamp:Int
 Batch:Int
 Night:Int
 Known:Int
 Until:Int
 deriving Inhabited,DecidableEq
structure Burn where
 Source:Int
 Lamp:Int
 Night:Int
 Minutes:Range
 Known:Int
 Until:Int
 deriving Inhabited,DecidableEq
structure Look where
 Source:Int
 Lamp:Int
 Night:Int
 Bad:Bool
 Known:Int
 Until:Int
 deriving Inhabited,DecidableEq
structure Wear where
 Batches:(List Batch)
 Mantles:(List Mantle)
 Burns:(List Burn)
 Looks:(List Look)
 deriving Inhabited,DecidableEq
structure gasolierlaw06_One where
 Batch:Batch
 Mantle:Mantle
 Burn:Burn
 Look:Look
 deriving Inhabited,DecidableEq
structure gasolierref06_Raw where
 Batches:(List (Arr2 Int))
 Mantles:(List (Arr4 Int))
 Burns:(List (Arr5 Int))
 Looks:(List (Arr4 Int))
 deriving Inhabited,DecidableEq
structure Lives where
 Lives:(List Int)
 Minutes:(List Int)
 deriving Inhabited,DecidableEq
structure gasolierref06_When where
 Lamp:Int
 Night:Int
 Known:Int
 deriving Inhabited,DecidableEq
structure mantle_sight where
 night:Int
 bad:Bool
 deriving Inhabited,DecidableEq
structure mantle_coat where
 w:Wear
 burns:(List Int)
 sights:(List mantle_sight)
 deriving Inhabited,DecidableEq
structure mantle_closet where
 w:Wear
 known:Int
 coats:(Mp mantle_coat)
 lives:(List Range)
 deriving Inhabited
structure mantle_lot where
 closet:mantle_closet
 lamps:(List Int)
 mantles:(List Int)
 night:Int
 deriving Inhabited
structure gasolierref06_Told where
 Looks:(List Look)
 Known:Int
 deriving Inhabited,DecidableEq
structure gasolierref06_Seen where
 Good:Int
 Bad:Int
 deriving Inhabited,DecidableEq
def zan  : Wear:=
 (⟨([(⟨1,(⟨1000,2000⟩:Range)⟩:Batch),(⟨2,(⟨100,3000⟩:Range)⟩:Batch)]:List Batch),([(⟨1,10,1,0,0,0⟩:Mantle),(⟨2,11,1,0,0,0⟩:Mantle),(⟨3,12,2,0,0,0⟩:Mantle),(⟨4,10,1,9,0,0⟩:Mantle)]:List Mantle),([(⟨11,10,1,(⟨800,900⟩:Range),0,0⟩:Burn),(⟨12,10,2,(⟨500,700⟩:Range),0,0⟩:Burn),(⟨13,11,1,(⟨700,1200⟩:Range),0,0⟩:Burn),(⟨14,12,1,(⟨50,90⟩:Range),0,0⟩:Burn)]:List Burn),([(⟨21,10,1,false,0,0⟩:Look),(⟨22,10,2,true,5,0⟩:Look)]:List Look)⟩:Wear)
def zci (p0:(List Batch)) (p1:Int) (p2:Batch→Option Int) (p3:Batch→Option Int):Option Bool:=
 (zau (fun i1 (s1:Unit) k1=>zao (p2 (p0.getD i1 default)) fun y3=>must ((((!(!decide (y3=0))) && (decide (0<(i1:Int))))=true→(inI ((i1:Int) - 1)))) <| must ((((!(!decide (y3=0))) && (decide (0<(i1:Int))))=true→(0≤(((i1:Int) - 1):Int)∧(((i1:Int) - 1):Int)<((p0.length:Nat):Int)))) <| zao ((bif ((!(!decide (y3=0))) && (decide (0<(i1:Int)))) then p3 (p0.getD (((i1:Int) - 1)).toNat default) else some default)) fun y7=>zao ((bif ((!(!decide (y3=0))) && (decide (0<(i1:Int)))) then p3 (p0.getD i1 default) else some default)) fun y9=>(bif ((!decide (y3=0)) || ((decide (0<(i1:Int))) && (decide (y9≤y7)))) then some false else k1 ())) (fun (s1:Unit)=>some (decide (((p0.length:Nat):Int)≤p1))) p0.length 0 ())
def zaK (p0:Int) (p1:Int) (p2:Int):Bool:=
 ((decide (p1≤p0)) && (decide (p0≤p2)))
def zbC (p0:Range) (p1:Int):Bool:=
 (((decide (0≤p0.Lo)) && (decide (p0.Lo≤p0.Hi))) && (decide (p0.Hi≤p1)))
def zaV (p0:Batch):Int:=
 (bif ((!(zaK p0.Id 1 99)) || (!(zbC p0.Life 1000000))) then 60 else 0)
def zcH (p0:Batch):Int:=
 p0.Id
def zcb (p0:(List Mantle)) (p1:Int) (p2:Mantle→Option Int) (p3:Mantle→Option Int):Option Bool:=
 (zau (fun i1 (s1:Unit) k1=>zao (p2 (p0.getD i1 default)) fun y3=>must ((((!(!decide (y3=0))) && (decide (0<(i1:Int))))=true→(inI ((i1:Int) - 1)))) <| must ((((!(!decide (y3=0))) && (decide (0<(i1:Int))))=true→(0≤(((i1:Int) - 1):Int)∧(((i1:Int) - 1):Int)<((p0.length:Nat):Int)))) <| zao ((bif ((!(!decide (y3=0))) && (decide (0<(i1:Int)))) then p3 (p0.getD (((i1:Int) - 1)).toNat default) else some default)) fun y7=>zao ((bif ((!(!decide (y3=0))) && (decide (0<(i1:Int)))) then p3 (p0.getD i1 default) else some default)) fun y9=>(bif ((!decide (y3=0)) || ((decide (0<(i1:Int))) && (decide (y9≤y7)))) then some false else k1 ())) (fun (s1:Unit)=>some (decide (((p0.length:Nat):Int)≤p1))) p0.length 0 ())
def zaY (p0:Int):Bool:=
 (zaK p0 1 99999)
def zaN (p0:Int):Bool:=
 (zaK p0 1 999)
def zaL (p0:Int):Bool:=
 (zaK p0 0 100000)
def za1 (p0:Int) (p1:Int) (p2:Int):Bool:=
 (((zaL p0) && (zaL p1)) && ((decide (p2=0)) || ((decide (p1<p2)) && (zaL p2))))
def za8 (p0:Mantle):Int:=
 (bif ((((!(zaY p0.Source)) || (!(zaN p0.Lamp))) || (!(zaK p0.Batch 1 99))) || (!(za1 p0.Night p0.Known p0.Until))) then 61 else 0)
def zcG (p0:Mantle):Int:=
 p0.Source
def zcu (p0:(List Burn)) (p1:Int) (p2:Burn→Option Int) (p3:Burn→Option Int):Option Bool:=
 (zau (fun i1 (s1:Unit) k1=>zao (p2 (p0.getD i1 default)) fun y3=>must ((((!(!decide (y3=0))) && (decide (0<(i1:Int))))=true→(inI ((i1:Int) - 1)))) <| must ((((!(!decide (y3=0))) && (decide (0<(i1:Int))))=true→(0≤(((i1:Int) - 1):Int)∧(((i1:Int) - 1):Int)<((p0.length:Nat):Int)))) <| zao ((bif ((!(!decide (y3=0))) && (decide (0<(i1:Int)))) then p3 (p0.getD (((i1:Int) - 1)).toNat default) else some default)) fun y7=>zao ((bif ((!(!decide (y3=0))) && (decide (0<(i1:Int)))) then p3 (p0.getD i1 default) else some default)) fun y9=>(bif ((!decide (y3=0)) || ((decide (0<(i1:Int))) && (decide (y9≤y7)))) then some false else k1 ())) (fun (s1:Unit)=>some (decide (((p0.length:Nat):Int)≤p1))) p0.length 0 ())
def zbq (p0:Burn):Int:=
 (bif ((((!(zaY p0.Source)) || (!(zaN p0.Lamp))) || (!(zbC p0.Minutes 1440))) || (!(za1 p0.Night p0.Known p0.Until))) then 62 else 0)
def zcF (p0:Burn):Int:=
 p0.Source
def zdp (p0:(List Look)) (p1:Int) (p2:Look→Option Int) (p3:Look→Option Int):Option Bool:=
 (zau (fun i1 (s1:Unit) k1=>zao (p2 (p0.getD i1 default)) fun y3=>must ((((!(!decide (y3=0))) && (decide (0<(i1:Int))))=true→(inI ((i1:Int) - 1)))) <| must ((((!(!decide (y3=0))) && (decide (0<(i1:Int))))=true→(0≤(((i1:Int) - 1):Int)∧(((i1:Int) - 1):Int)<((p0.length:Nat):Int)))) <| zao ((bif ((!(!decide (y3=0))) && (decide (0<(i1:Int)))) then p3 (p0.getD (((i1:Int) - 1)).toNat default) else some default)) fun y7=>zao ((bif ((!(!decide (y3=0))) && (decide (0<(i1:Int)))) then p3 (p0.getD i1 default) else some default)) fun y9=>(bif ((!decide (y3=0)) || ((decide (0<(i1:Int))) && (decide (y9≤y7)))) then some false else k1 ())) (fun (s1:Unit)=>some (decide (((p0.length:Nat):Int)≤p1))) p0.length 0 ())
def za2 (p0:Look):Int:=
 (bif (((!(zaY p0.Source)) || (!(zaN p0.Lamp))) || (!(za1 p0.Night p0.Known p0.Until))) then 63 else 0)
def zc3 (p0:Look):Int:=
 p0.Source
def zbj (p0:(List Mantle)) (p1:Mantle→Option Bool):Option Int:=
 (zau (fun i1 (s1:Unit) k1=>zao (p1 (p0.getD i1 default)) fun y3=>(bif y3 then some (i1:Int) else k1 ())) (fun (s1:Unit)=>some (-1)) p0.length 0 ())
def zbt (p0:(List Mantle)) (p1:Mantle→Option Bool):Option Bool:=
 zao (zbj p0 p1) fun y1=>some (decide (0≤y1))
def zbZ (p0:(List Batch)) (p1:Batch→Option Bool):Option Int:=
 (zau (fun i1 (s1:Unit) k1=>zao (p1 (p0.getD i1 default)) fun y3=>(bif y3 then some (i1:Int) else k1 ())) (fun (s1:Unit)=>some (-1)) p0.length 0 ())
def zb4 (p0:Batch) (c0:Int):Bool:=
 (decide (p0.Id=c0))
def zbS (p0:Wear) (p1:Int):Option Int:=
 zao (zbZ p0.Batches (fun x0=>some (zb4 x0 p1))) fun y1=>some y1
def zcE (p0:Mantle) (c0:Wear):Option Bool:=
 zao (zbS c0 p0.Batch) fun y1=>some (decide (y1<0))
def zbT (p0:Wear):Option Int:=
 zao (zci p0.Batches 8 (fun x0=>some (zaV x0)) (fun x0=>some (zcH x0))) fun y1=>zao (zcb p0.Mantles 60 (fun x0=>some (za8 x0)) (fun x0=>some (zcG x0))) fun y3=>zao (zcu p0.Burns 60 (fun x0=>some (zbq x0)) (fun x0=>some (zcF x0))) fun y5=>zao ((bif (!(((!y1) || (!y3)) || (!y5))) then zdp p0.Looks 60 (fun x0=>some (za2 x0)) (fun x0=>some (zc3 x0)) else some default)) fun y7=>zao ((bif (!((((!y1) || (!y3)) || (!y5)) || (!y7))) then zbt p0.Mantles (fun x0=>zcE x0 p0) else some default)) fun y9=>(bif (((((!y1) || (!y3)) || (!y5)) || (!y7)) || y9) then some 64 else some 0)
def zc6 (p0:(List Int)) (p1:Int→Option Bool):Option Int:=
 (zau (fun i1 (s1:Unit) k1=>zao (p1 (p0.getD i1 default)) fun y3=>(bif y3 then some (i1:Int) else k1 ())) (fun (s1:Unit)=>some (-1)) p0.length 0 ())
def zbk (p0:(List Int)) (p1:Int→Option Bool):Option Bool:=
 zao (zc6 p0 p1) fun y1=>some (decide (0≤y1))
def zbl (p0:Int):Bool:=
 (!(zaL p0))
def zba (p0:Wear) (p1:(List Int)):Option Int:=
 zao (zbT p0) fun y1=>(bif (!decide (y1=0)) then some y1 else zao (zbk p1 (fun x0=>some (zbl x0))) fun y4=>(bif y4 then some 6 else some 0))
def zax (p0:Int) (p1:Int) (p2:Int):Bool:=
 ((decide (p0≤p2)) && ((decide (p1=0)) || (decide (p2<p1))))
def zbR (p0:Wear) (p1:Int) (p2:Int) (p3:Int):Option Int:=
 (zau (fun i1 (s1:Int) k1=>must ((((((decide ((p0.Mantles.getD i1 default).Lamp=p1)) && (decide ((p0.Mantles.getD i1 default).Night≤p2))) && (zax ((p0.Mantles.getD i1 default).Known) ((p0.Mantles.getD i1 default).Until) p3)) && !(decide (s1<0)))=true→(0≤(s1:Int)∧(s1:Int)<((p0.Mantles.length:Nat):Int)))) <| (bif ((((decide ((p0.Mantles.getD i1 default).Lamp=p1)) && (decide ((p0.Mantles.getD i1 default).Night≤p2))) && (zax ((p0.Mantles.getD i1 default).Known) ((p0.Mantles.getD i1 default).Until) p3)) && ((decide (s1<0)) || (decide ((p0.Mantles.getD (s1).toNat default).Night≤(p0.Mantles.getD i1 default).Night)))) then k1 (i1:Int) else k1 s1)) (fun (s1:Int)=>some s1) p0.Mantles.length 0 (-1))
def zc4 (p0:Wear) (p1:Int) (p2:Int) (p3:Int):Option (Int×Int):=
 zao (zbT p0) fun y1=>(bif (!decide (y1=0)) then some (0,y1) else (bif (!(zaN p1)) then some (0,1) else zao (zba p0 ([p2,p3]:List Int)) fun y5=>(bif (!decide (y5=0)) then some (0,y5) else zao (zbR p0 p1 p2 p3) fun y8=>(bif (decide (y8<0)) then some (0,66) else some (y8,0)))))
def zb6 (p0:(List Burn)) (p1:Burn→Option Bool):Option Int:=
 (zau (fun i1 (s1:Unit) k1=>zao (p1 (p0.getD i1 default)) fun y3=>(bif y3 then some (i1:Int) else k1 ())) (fun (s1:Unit)=>some (-1)) p0.length 0 ())
def zcl (p0:(List Burn)) (p1:Burn→Option Bool):Option Bool:=
 zao (zb6 p0 p1) fun y1=>some (decide (0≤y1))
def zbi (p0:Burn) (c0:Burn) (c1:Int):Bool:=
 (((decide (p0.Lamp=c0.Lamp)) && (decide (p0.Night=c0.Night))) && (zax p0.Known p0.Until c1))
def zaM (fuel:Nat) (p0:(List Int)) (p1:Int) (p2:Int) (p3:Int→Int→Option Int):Option (List Int):=
 must (inI (p1+1)) <| (loopGo (fun (s2:Int×(List Int)) k2=>(bif (decide (s2.1<p2)) then (loopGo (fun (s4:Int×(List Int)) k4=>must (((decide (p1<s4.1))=true→(0≤(s4.1:Int)∧(s4.1:Int)<((s4.2.length:Nat):Int)))) <| must (((decide (p1<s4.1))=true→(inI (s4.1 - 1)))) <| must (((decide (p1<s4.1))=true→(0≤((s4.1 - 1):Int)∧((s4.1 - 1):Int)<((s4.2.length:Nat):Int)))) <| zao ((bif (decide (p1<s4.1)) then p3 (s4.2.getD (s4.1).toNat default) (s4.2.getD ((s4.1 - 1)).toNat default) else some default)) fun y8=>(bif ((decide (p1<s4.1)) && (decide (y8<0))) then must (inI (s4.1 - 1)) <| must (inI (s4.1 - 1)) <| must (0≤((s4.1 - 1):Int)∧((s4.1 - 1):Int)<((s4.2.length:Nat):Int)) <| must (0≤(s4.1:Int)∧(s4.1:Int)<((s4.2.length:Nat):Int)) <| must (0≤(s4.1:Int)∧(s4.1:Int)<((s4.2.length:Nat):Int)) <| must (0≤((s4.1 - 1):Int)∧((s4.1 - 1):Int)<(((s4.2.set (s4.1).toNat (s4.2.getD ((s4.1 - 1)).toNat default)).length:Nat):Int)) <| must (inI (s4.1 - 1)) <| k4 ((s4.1 - 1),((s4.2.set (s4.1).toNat (s4.2.getD ((s4.1 - 1)).toNat default)).set ((s4.1 - 1)).toNat (s4.2.getD (s4.1).toNat default))) else must (inI (s2.1+1)) <| k2 ((s2.1+1),s4.2))) fuel (s2.1,s2.2)) else some s2.2)) fuel ((p1+1),p0))
def zaO (fuel:Nat) (p0:(List Int)) (p1:Int) (p2:Int) (p3:Int) (p4:Int→Int→Option Int):Option (List Int):=
 (loopGo (fun (s1:Int×(List Int)) k1=>(bif (decide (s1.1<p3)) then must (inI (p1+s1.1)) <| must (inI (p2+s1.1)) <| must (inI (p2+s1.1)) <| must (0≤((p2+s1.1):Int)∧((p2+s1.1):Int)<((s1.2.length:Nat):Int)) <| must (inI (p1+s1.1)) <| must (0≤((p1+s1.1):Int)∧((p1+s1.1):Int)<((s1.2.length:Nat):Int)) <| must (0≤((p1+s1.1):Int)∧((p1+s1.1):Int)<((s1.2.length:Nat):Int)) <| must (0≤((p2+s1.1):Int)∧((p2+s1.1):Int)<(((s1.2.set ((p1+s1.1)).toNat (s1.2.getD ((p2+s1.1)).toNat default)).length:Nat):Int)) <| must (inI (s1.1+1)) <| k1 ((s1.1+1),((s1.2.set ((p1+s1.1)).toNat (s1.2.getD ((p2+s1.1)).toNat default)).set ((p2+s1.1)).toNat (s1.2.getD ((p1+s1.1)).toNat default))) else some s1.2)) fuel (0,p0))
def za5 (fuel:Nat) (p0:(List Int)) (p1:Int) (p2:Int) (p3:Int) (p4:Int→Int→Option Int):Option (List Int):=
 must (inI (p2 - p1)) <| must (inI (p3 - p2)) <| (loopGo (fun (s3:Int×Int×(List Int)) k3=>(bif (!decide (s3.1=s3.2.1)) then (bif (decide (s3.2.1<s3.1)) then must (inI (p2 - s3.1)) <| zao (zaO fuel s3.2.2 (p2 - s3.1) p2 s3.2.1 p4) fun y7=>must (y7.length=s3.2.2.length) <| must (inI (s3.1 - s3.2.1)) <| k3 ((s3.1 - s3.2.1),s3.2.1,y7) else must (inI (p2 - s3.1)) <| must (inI (p2+s3.2.1)) <| must (inI ((p2+s3.2.1) - s3.1)) <| zao (zaO fuel s3.2.2 (p2 - s3.1) ((p2+s3.2.1) - s3.1) s3.1 p4) fun y14=>must (y14.length=s3.2.2.length) <| must (inI (s3.2.1 - s3.1)) <| k3 (s3.1,(s3.2.1 - s3.1),y14)) else must (inI (p2 - s3.1)) <| zao (zaO fuel s3.2.2 (p2 - s3.1) p2 s3.1 p4) fun y19=>some y19)) fuel ((p2 - p1),(p3 - p2),p0))
def zaW (fuel:Nat) (rec:(List Int)→Int→Int→Int→(Int→Int→Option Int)→Option (List Int)) (p0:(List Int)) (p1:Int) (p2:Int) (p3:Int) (p4:Int→Int→Option Int):Option (List Int):=
 must (inI (p2 - p1)) <| (bif (decide ((p2 - p1)=1)) then (loopGo (fun (s3:Int×Int) k3=>(bif (decide (s3.1<s3.2)) then must (inI (s3.1+s3.2)) <| must (inU (s3.1+s3.2)) <| must (inI (Int.fdiv (s3.1+s3.2) (2 ^ (1:Int).toNat))) <| must (0≤((Int.fdiv (s3.1+s3.2) (2 ^ (1:Int).toNat)):Int)∧((Int.fdiv (s3.1+s3.2) (2 ^ (1:Int).toNat)):Int)<((p0.length:Nat):Int)) <| must (0≤(p1:Int)∧(p1:Int)<((p0.length:Nat):Int)) <| zao (p4 (p0.getD ((Int.fdiv (s3.1+s3.2) (2 ^ (1:Int).toNat))).toNat default) (p0.getD (p1).toNat default)) fun y10=>(bif (decide (y10<0)) then must (inI ((Int.fdiv (s3.1+s3.2) (2 ^ (1:Int).toNat))+1)) <| k3 (((Int.fdiv (s3.1+s3.2) (2 ^ (1:Int).toNat))+1),s3.2) else k3 (s3.1,(Int.fdiv (s3.1+s3.2) (2 ^ (1:Int).toNat)))) else (loopGo (fun (s14:Int×(List Int)) k14=>must (inI (s3.1 - 1)) <| (bif (decide (s14.1<(s3.1 - 1))) then must (inI (s14.1+1)) <| must (inI (s14.1+1)) <| must (0≤((s14.1+1):Int)∧((s14.1+1):Int)<((s14.2.length:Nat):Int)) <| must (0≤(s14.1:Int)∧(s14.1:Int)<((s14.2.length:Nat):Int)) <| must (0≤(s14.1:Int)∧(s14.1:Int)<((s14.2.length:Nat):Int)) <| must (0≤((s14.1+1):Int)∧((s14.1+1):Int)<(((s14.2.set (s14.1).toNat (s14.2.getD ((s14.1+1)).toNat default)).length:Nat):Int)) <| must (inI (s14.1+1)) <| k14 ((s14.1+1),((s14.2.set (s14.1).toNat (s14.2.getD ((s14.1+1)).toNat default)).set ((s14.1+1)).toNat (s14.2.getD (s14.1).toNat default))) else some s14.2)) fuel (p1,p0)))) fuel (p2,p3)) else must (inI (p3 - p2)) <| (bif (decide ((p3 - p2)=1)) then (loopGo (fun (s26:Int×Int) k26=>(bif (decide (s26.1<s26.2)) then must (inI (s26.1+s26.2)) <| must (inU (s26.1+s26.2)) <| must (inI (Int.fdiv (s26.1+s26.2) (2 ^ (1:Int).toNat))) <| must (0≤(p2:Int)∧(p2:Int)<((p0.length:Nat):Int)) <| must (0≤((Int.fdiv (s26.1+s26.2) (2 ^ (1:Int).toNat)):Int)∧((Int.fdiv (s26.1+s26.2) (2 ^ (1:Int).toNat)):Int)<((p0.length:Nat):Int)) <| zao (p4 (p0.getD (p2).toNat default) (p0.getD ((Int.fdiv (s26.1+s26.2) (2 ^ (1:Int).toNat))).toNat default)) fun y33=>(bif (!(decide (y33<0))) then must (inI ((Int.fdiv (s26.1+s26.2) (2 ^ (1:Int).toNat))+1)) <| k26 (((Int.fdiv (s26.1+s26.2) (2 ^ (1:Int).toNat))+1),s26.2) else k26 (s26.1,(Int.fdiv (s26.1+s26.2) (2 ^ (1:Int).toNat)))) else (loopGo (fun (s37:Int×(List Int)) k37=>(bif (decide (s26.1<s37.1)) then must (inI (s37.1 - 1)) <| must (inI (s37.1 - 1)) <| must (0≤((s37.1 - 1):Int)∧((s37.1 - 1):Int)<((s37.2.length:Nat):Int)) <| must (0≤(s37.1:Int)∧(s37.1:Int)<((s37.2.length:Nat):Int)) <| must (0≤(s37.1:Int)∧(s37.1:Int)<((s37.2.length:Nat):Int)) <| must (0≤((s37.1 - 1):Int)∧((s37.1 - 1):Int)<(((s37.2.set (s37.1).toNat (s37.2.getD ((s37.1 - 1)).toNat default)).length:Nat):Int)) <| must (inI (s37.1 - 1)) <| k37 ((s37.1 - 1),((s37.2.set (s37.1).toNat (s37.2.getD ((s37.1 - 1)).toNat default)).set ((s37.1 - 1)).toNat (s37.2.getD (s37.1).toNat default))) else some s37.2)) fuel (p2,p0)))) fuel (p1,p2)) else must (inI (p1+p3)) <| must (inU (p1+p3)) <| must (inI (Int.fdiv (p1+p3) (2 ^ (1:Int).toNat))) <| must (inI ((Int.fdiv (p1+p3) (2 ^ (1:Int).toNat))+p2)) <| (ziV (fun (k50:Int×Int→_)=>(bif (decide ((Int.fdiv (p1+p3) (2 ^ (1:Int).toNat))<p2)) then must (inI (((Int.fdiv (p1+p3) (2 ^ (1:Int).toNat))+p2) - p3)) <| k50 ((((Int.fdiv (p1+p3) (2 ^ (1:Int).toNat))+p2) - p3),(Int.fdiv (p1+p3) (2 ^ (1:Int).toNat))) else k50 (p1,p2))) (fun (s50:Int×Int)=>must (inI (((Int.fdiv (p1+p3) (2 ^ (1:Int).toNat))+p2) - 1)) <| (loopGo (fun (s52:Int×Int) k52=>(bif (decide (s52.1<s52.2)) then must (inI (s52.1+s52.2)) <| must (inU (s52.1+s52.2)) <| must (inI (Int.fdiv (s52.1+s52.2) (2 ^ (1:Int).toNat))) <| must (inI ((((Int.fdiv (p1+p3) (2 ^ (1:Int).toNat))+p2) - 1) - (Int.fdiv (s52.1+s52.2) (2 ^ (1:Int).toNat)))) <| must (0≤(((((Int.fdiv (p1+p3) (2 ^ (1:Int).toNat))+p2) - 1) - (Int.fdiv (s52.1+s52.2) (2 ^ (1:Int).toNat))):Int)∧(((((Int.fdiv (p1+p3) (2 ^ (1:Int).toNat))+p2) - 1) - (Int.fdiv (s52.1+s52.2) (2 ^ (1:Int).toNat))):Int)<((p0.length:Nat):Int)) <| must (0≤((Int.fdiv (s52.1+s52.2) (2 ^ (1:Int).toNat)):Int)∧((Int.fdiv (s52.1+s52.2) (2 ^ (1:Int).toNat)):Int)<((p0.length:Nat):Int)) <| zao (p4 (p0.getD (((((Int.fdiv (p1+p3) (2 ^ (1:Int).toNat))+p2) - 1) - (Int.fdiv (s52.1+s52.2) (2 ^ (1:Int).toNat)))).toNat default) (p0.getD ((Int.fdiv (s52.1+s52.2) (2 ^ (1:Int).toNat))).toNat default)) fun y60=>(bif (!(decide (y60<0))) then must (inI ((Int.fdiv (s52.1+s52.2) (2 ^ (1:Int).toNat))+1)) <| k52 (((Int.fdiv (s52.1+s52.2) (2 ^ (1:Int).toNat))+1),s52.2) else k52 (s52.1,(Int.fdiv (s52.1+s52.2) (2 ^ (1:Int).toNat)))) else must (inI (((Int.fdiv (p1+p3) (2 ^ (1:Int).toNat))+p2) - s52.1)) <| (ziV (fun (k65:(List Int)→_)=>(bif ((decide (s52.1<p2)) && (decide (p2<(((Int.fdiv (p1+p3) (2 ^ (1:Int).toNat))+p2) - s52.1)))) then zao (za5 fuel p0 s52.1 p2 (((Int.fdiv (p1+p3) (2 ^ (1:Int).toNat))+p2) - s52.1) p4) fun y75=>must (y75.length=p0.length) <| k65 y75 else k65 p0)) (fun (s65:(List Int))=>(ziV (fun (k66:(List Int)→_)=>(bif ((decide (p1<s52.1)) && (decide (s52.1<(Int.fdiv (p1+p3) (2 ^ (1:Int).toNat))))) then zao (rec s65 p1 s52.1 (Int.fdiv (p1+p3) (2 ^ (1:Int).toNat)) p4) fun y71=>must (y71.length=s65.length) <| k66 y71 else k66 s65)) (fun (s66:(List Int))=>(bif ((decide ((Int.fdiv (p1+p3) (2 ^ (1:Int).toNat))<(((Int.fdiv (p1+p3) (2 ^ (1:Int).toNat))+p2) - s52.1))) && (decide ((((Int.fdiv (p1+p3) (2 ^ (1:Int).toNat))+p2) - s52.1)<p3))) then zao (rec s66 (Int.fdiv (p1+p3) (2 ^ (1:Int).toNat)) (((Int.fdiv (p1+p3) (2 ^ (1:Int).toNat))+p2) - s52.1) p3 p4) fun y68=>some y68 else some s66))))))) fuel (s50.1,s50.2))))))
def zaP (fuel:Nat):Nat→(List Int)→Int→Int→Int→(Int→Int→Option Int)→Option (List Int)
 | 0=>fun _ _ _ _ _=>none
 | n+1=>zaW fuel (zaP fuel n)
def zbs (fuel:Nat) (p0:(List Int)) (p1:Int) (p2:Int→Int→Option Int):Option (List Int):=
 (loopGo (fun (s1:Int×Int×(List Int)) k1=>(bif (decide (s1.2.1≤p1)) then zao (zaM fuel s1.2.2 s1.1 s1.2.1 p2) fun y3=>must (y3.length=s1.2.2.length) <| must (inI (s1.2.1+20)) <| k1 (s1.2.1,(s1.2.1+20),y3) else zao (zaM fuel s1.2.2 s1.1 p1 p2) fun y7=>must (y7.length=s1.2.2.length) <| (loopGo (fun (s10:Int×(List Int)) k10=>(bif (decide (s10.1<p1)) then must (inI (2 * s10.1)) <| (loopGo (fun (s13:Int×Int×(List Int)) k13=>(bif (decide (s13.2.1≤p1)) then must (inI (s13.1+s10.1)) <| zao (zaP fuel fuel s13.2.2 s13.1 (s13.1+s10.1) s13.2.1 p2) fun y16=>must (y16.length=s13.2.2.length) <| must (inI (2 * s10.1)) <| must (inI (s13.2.1+(2 * s10.1))) <| k13 (s13.2.1,(s13.2.1+(2 * s10.1)),y16) else must (inI (s13.1+s10.1)) <| (ziV (fun (k22:(List Int)→_)=>(bif (decide ((s13.1+s10.1)<p1)) then zao (zaP fuel fuel s13.2.2 s13.1 (s13.1+s10.1) p1 p2) fun y25=>must (y25.length=s13.2.2.length) <| k22 y25 else k22 s13.2.2)) (fun (s22:(List Int))=>must (inI (s10.1 * 2)) <| k10 ((s10.1 * 2),s22))))) fuel (0,(2 * s10.1),s10.2)) else some s10.2)) fuel (20,y7)))) fuel (0,20,p0))
def zaF (fuel:Nat) (p0:(List Int)) (p1:Int→Int→Option Int):Option (List Int):=
 zao (zbs fuel p0 ((p0.length:Nat):Int) p1) fun y1=>some y1
def cmp_isNaN_int (p0:Int):Bool:=
 (!decide (p0=p0))
def zbo (p0:Int) (p1:Int):Int:=
 (bif (cmp_isNaN_int p0) then (bif (cmp_isNaN_int p1) then 0 else (-1)) else (bif (cmp_isNaN_int p1) then 1 else (bif (decide (p0<p1)) then (-1) else (bif (decide (p1<p0)) then 1 else 0))))
def zbD (p0:Int) (p1:Int) (c0:Wear):Option Int:=
 must (0≤(p0:Int)∧(p0:Int)<((c0.Burns.length:Nat):Int)) <| must (0≤(p1:Int)∧(p1:Int)<((c0.Burns.length:Nat):Int)) <| some (zbo ((c0.Burns.getD (p0).toNat default).Night) ((c0.Burns.getD (p1).toNat default).Night))
def zd0 (fuel:Nat) (p0:Wear) (p1:Int):Option (Mp (List Int)):=
 (zau (fun i1 (s1:(Mp (List Int))) k1=>zao (zbR p0 ((p0.Burns.getD i1 default).Lamp) ((p0.Burns.getD i1 default).Night) p1) fun y3=>must ((((decide (0≤y3)) && (zax ((p0.Burns.getD i1 default).Known) ((p0.Burns.getD i1 default).Until) p1))=true→((0:Int)≤((i1:Int)+1)∧(((i1:Int)+1):Int)≤((p0.Burns.length:Nat):Int)))) <| zao ((bif ((decide (0≤y3)) && (zax ((p0.Burns.getD i1 default).Known) ((p0.Burns.getD i1 default).Until) p1)) then zcl (p0.Burns.drop (((i1:Int)+1)).toNat) (fun x0=>some (zbi x0 (p0.Burns.getD i1 default) p1)) else some default)) fun y6=>(bif (((decide (0≤y3)) && (zax ((p0.Burns.getD i1 default).Known) ((p0.Burns.getD i1 default).Until) p1)) && (!y6)) then must (room (((s1.get y3).getD [])++([(i1:Int)]:List Int)).length 8) <| k1 (s1.set y3 (((s1.get y3).getD [])++([(i1:Int)]:List Int))) else k1 s1)) (fun (s1:(Mp (List Int)))=>must (s1.ok) <| zao (s1.zmI (fun (l11:List Int)=>zao (zaF fuel l11 (fun x0 x1=>zbD x0 x1 p0)) fun y13=>must (y13.length=l11.length) (some y13))) fun y11=>some y11) p0.Burns.length 0 (Mp.empty:Mp (List Int)))
def zbL (p0:(List mantle_sight)):Option (List mantle_sight):=
 must (room (([]:List mantle_sight)++p0).length 16) <| some (([]:List mantle_sight)++p0)
def zbz (p0:mantle_coat) (p1:mantle_sight):Option mantle_coat:=
 zao (zbL p0.sights) fun y1=>must (room (y1++([p1]:List mantle_sight)).length 16) <| some (⟨p0.w,p0.burns,(y1++([p1]:List mantle_sight))⟩:mantle_coat)
def zbG (c0:mantle_closet):Option (List (Int×mantle_coat)):=
 must (c0.w.Mantles.length≤9223372036854775807) <| (zau (fun i1 (s1:Unit) k1=>zjO true ((i1:Int),((c0.coats.get (i1:Int)).getD default)) <| k1 ()) (fun (s1:Unit)=>some []) c0.w.Mantles.length 0 ())
def zcm (p0:mantle_coat):Option (Int×Int):=
 (zau (fun i1 (s1:Int×Int) k1=>(bif (!((p0.sights.getD i1 default).bad)) then k1 ((max s1.1 ((p0.sights.getD i1 default).night)),s1.2) else (bif ((decide (s1.2=(-1))) || (decide ((p0.sights.getD i1 default).night<s1.2))) then k1 (s1.1,(p0.sights.getD i1 default).night) else k1 (s1.1,s1.2)))) (fun (s1:Int×Int)=>some (s1.1,s1.2)) p0.sights.length 0 ((-1),(-1)))
def zbf (p0:mantle_coat) (p1:Int) (p2:Int):Option Range:=
 (zau (fun i1 (s1:Range) k1=>must (0≤((p0.burns.getD i1 default):Int)∧((p0.burns.getD i1 default):Int)<((p0.w.Burns.length:Nat):Int)) <| (bif ((decide (p1<(p0.w.Burns.getD ((p0.burns.getD i1 default)).toNat default).Night)) && (decide ((p0.w.Burns.getD ((p0.burns.getD i1 default)).toNat default).Night≤p2))) then must (inI (s1.Lo+(p0.w.Burns.getD ((p0.burns.getD i1 default)).toNat default).Minutes.Lo)) <| must (inI (s1.Hi+(p0.w.Burns.getD ((p0.burns.getD i1 default)).toNat default).Minutes.Hi)) <| k1 (⟨(s1.Lo+(p0.w.Burns.getD ((p0.burns.getD i1 default)).toNat default).Minutes.Lo),(s1.Hi+(p0.w.Burns.getD ((p0.burns.getD i1 default)).toNat default).Minutes.Hi)⟩:Range) else k1 s1)) (fun (s1:Range)=>some s1) p0.burns.length 0 (⟨0,0⟩:Range))
def zbm (p0:mantle_coat):Option Range:=
 zao (zcm p0) fun y1=>(ziV (fun (k3:Int→_)=>(bif (!decide (y1.1=(-1))) then zao (zbf p0 (-1) y1.1) fun y13=>k3 y13.Lo else k3 0)) (fun (s3:Int)=>(ziV (fun (k4:Int→_)=>(bif (!decide (y1.2=(-1))) then zao (zbf p0 (-1) y1.2) fun y9=>must (inI (y9.Hi - 1)) <| k4 (min 1000000 (y9.Hi - 1)) else k4 1000000)) (fun (s4:Int)=>zao ((bif (((!decide (y1.1=(-1))) && (!decide (y1.2=(-1)))) && !(decide (y1.2≤y1.1))) then zbf p0 y1.1 y1.2 else some default)) fun y5=>(bif (((!decide (y1.1=(-1))) && (!decide (y1.2=(-1)))) && ((decide (y1.2≤y1.1)) || (decide (y5.Hi=0)))) then some (⟨1,0⟩:Range) else some (⟨s3,s4⟩:Range))))))
def zaU (p0:Range) (p1:Range):Range:=
 (⟨(max p0.Lo p1.Lo),(min p0.Hi p1.Hi)⟩:Range)
def zbn (p0:mantle_closet) (p1:Int) (p2:Range):Option mantle_closet:=
 must (0≤(p1:Int)∧(p1:Int)<((p0.lives.length:Nat):Int)) <| must (0≤(p1:Int)∧(p1:Int)<((p0.lives.length:Nat):Int)) <| some (⟨p0.w,p0.known,p0.coats,(p0.lives.set (p1).toNat (zaU (p0.lives.getD (p1).toNat default) p2))⟩:mantle_closet)
def zct (fuel:Nat) (p0:Wear) (p1:(List Look)) (p2:Int):Option mantle_closet:=
 zao (zd0 fuel p0 p2) fun y1=>must (p0.Mantles.length≤9223372036854775807) <| (zau (fun i3 (s3:(Mp mantle_coat)) k3=>k3 (s3.set (i3:Int) (⟨p0,((y1.get (i3:Int)).getD default),[]⟩:mantle_coat))) (fun (s3:(Mp mantle_coat))=>(zau (fun i5 (s5:(Mp mantle_coat)) k5=>zao (zbR p0 ((p1.getD i5 default).Lamp) ((p1.getD i5 default).Night) p2) fun y7=>(bif ((decide (0≤y7)) && (zax ((p1.getD i5 default).Known) ((p1.getD i5 default).Until) p2)) then zao (zbz ((s5.get y7).getD default) (⟨(p1.getD i5 default).Night,(p1.getD i5 default).Bad⟩:mantle_sight)) fun y10=>k5 (s5.set y7 y10) else k5 s5)) (fun (s5:(Mp mantle_coat))=>(zau (fun i12 (s12:(List Range)) k12=>must (room (s12++([(p0.Batches.getD i12 default).Life]:List Range)).length 16) <| k12 (s12++([(p0.Batches.getD i12 default).Life]:List Range))) (fun (s12:(List Range))=>zao (zbG (⟨p0,p2,s5,[]⟩:mantle_closet)) fun it15=>(zhY (fun (x15:Int×mantle_coat) (s16:(List Range)) k16=>must (0≤(x15.1:Int)∧(x15.1:Int)<((p0.Mantles.length:Nat):Int)) <| zao (zbS p0 ((p0.Mantles.getD (x15.1).toNat default).Batch)) fun y18=>zao (zbm x15.2) fun y20=>zao (zbn (⟨p0,p2,s5,s16⟩:mantle_closet) y18 y20) fun y22=>must (y22.lives.length=s16.length) <| k16 y22.lives) (fun (s16:(List Range))=>some (⟨p0,p2,s5,s16⟩:mantle_closet)) it15 s12)) p0.Batches.length 0 ([]:List Range))) p1.length 0 s3)) p0.Mantles.length 0 (Mp.empty:Mp mantle_coat))
def zhA (fuel:Nat) (p0:Wear) (p1:Int) (p2:Int) (p3:Int):Option (Range×Int):=
 zao (zc4 p0 p1 p2 p3) fun y1=>(bif (!decide (y1.2=0)) then some ((⟨0,0⟩:Range),y1.2) else zao (zct fuel p0 [] p3) fun y4=>zao (zbf ((y4.coats.get y1.1).getD default) (-1) p2) fun y6=>some (y6,0))
def zcJ (p0:(List Range)) (p1:Range→Option Bool):Option Int:=
 (zau (fun i1 (s1:Unit) k1=>zao (p1 (p0.getD i1 default)) fun y3=>(bif y3 then some (i1:Int) else k1 ())) (fun (s1:Unit)=>some (-1)) p0.length 0 ())
def zbB (p0:(List Range)) (p1:Range→Option Bool):Option Bool:=
 zao (zcJ p0 p1) fun y1=>some (decide (0≤y1))
def zaS (p0:Range):Bool:=
 (decide (p0.Hi<p0.Lo))
def zaQ (p0:mantle_closet):Option Bool:=
 zao (zbB p0.lives (fun x0=>some (zaS x0))) fun y1=>some (!y1)
def zds (fuel:Nat) (p0:Wear) (p1:Int):Option (mantle_closet×Int):=
 zao (zct fuel p0 p0.Looks p1) fun y1=>zao (zaQ y1) fun y3=>(bif (!y3) then some ((⟨(⟨[],[],[],[]⟩:Wear),0,(Mp.empty:Mp mantle_coat),[]⟩:mantle_closet),65) else some (y1,0))
def zgQ (fuel:Nat) (p0:Wear) (p1:Int) (p2:Int):Option (Range×Int):=
 zao (zba p0 ([p2]:List Int)) fun y1=>(bif (!decide (y1=0)) then some ((⟨0,0⟩:Range),y1) else zao (zbS p0 p1) fun y4=>(bif (decide (y4<0)) then some ((⟨0,0⟩:Range),3) else zao (zds fuel p0 p2) fun y7=>(bif (!decide (y7.2=0)) then some ((⟨0,0⟩:Range),y7.2) else must (0≤(y4:Int)∧(y4:Int)<((y7.1.lives.length:Nat):Int)) <| some ((y7.1.lives.getD (y4).toNat default),0))))
def za6 (p0:mantle_closet) (p1:Int):Option Int:=
 must (0≤(p1:Int)∧(p1:Int)<((p0.w.Mantles.length:Nat):Int)) <| zao (zbS p0.w ((p0.w.Mantles.getD (p1).toNat default).Batch)) fun y2=>some y2
def zbN (p0:mantle_closet) (p1:Int) (p2:Int) (p3:Bool):Option Range:=
 zao (za6 p0 p1) fun y1=>must (0≤(y1:Int)∧(y1:Int)<((p0.lives.length:Nat):Int)) <| zao (zbz ((p0.coats.get p1).getD default) (⟨p2,p3⟩:mantle_sight)) fun y4=>zao (zbm y4) fun y6=>some (zaU (p0.lives.getD (y1).toNat default) y6)
def zaT (p0:mantle_closet) (p1:Int) (p2:Int):Option Int:=
 zao (zbN p0 p1 p2 true) fun y1=>(bif (zaS y1) then some 0 else zao (zbN p0 p1 p2 false) fun y4=>(bif (zaS y4) then some 1 else some 2))
def zbH (fuel:Nat) (p0:Wear) (p1:Int) (p2:Int) (p3:Int):Option (Int×Int):=
 zao (zc4 p0 p1 p2 p3) fun y1=>(bif (!decide (y1.2=0)) then some (0,y1.2) else zao (zds fuel p0 p3) fun y4=>(bif (!decide (y4.2=0)) then some (0,y4.2) else zao (zaT y4.1 y1.1 p2) fun y7=>some (y7,0)))
def zfN (p0:(List Int)):Option Bool:=
 (zau (fun i1 (s1:Unit) k1=>must ((((!(!(zaN (p0.getD i1 default)))) && (decide (0<(i1:Int))))=true→(inI ((i1:Int) - 1)))) <| must ((((!(!(zaN (p0.getD i1 default)))) && (decide (0<(i1:Int))))=true→(0≤(((i1:Int) - 1):Int)∧(((i1:Int) - 1):Int)<((p0.length:Nat):Int)))) <| (bif ((!(zaN (p0.getD i1 default))) || ((decide (0<(i1:Int))) && (decide ((p0.getD i1 default)≤(p0.getD (((i1:Int) - 1)).toNat default))))) then some false else k1 ())) (fun (s1:Unit)=>some (zaK ((p0.length:Nat):Int) 1 20)) p0.length 0 ())
def zfM (fuel:Nat) (p0:Wear) (p1:(List Int)) (p2:Int) (p3:Int) (p4:Int):Option (mantle_lot×Int):=
 zao (zbT p0) fun y1=>(bif (!decide (y1=0)) then some ((⟨(⟨(⟨[],[],[],[]⟩:Wear),0,(Mp.empty:Mp mantle_coat),[]⟩:mantle_closet),[],[],0⟩:mantle_lot),y1) else (bif (!(zaK p4 0 20)) then some ((⟨(⟨(⟨[],[],[],[]⟩:Wear),0,(Mp.empty:Mp mantle_coat),[]⟩:mantle_closet),[],[],0⟩:mantle_lot),1) else zao (zfN p1) fun y5=>(bif (!y5) then some ((⟨(⟨(⟨[],[],[],[]⟩:Wear),0,(Mp.empty:Mp mantle_coat),[]⟩:mantle_closet),[],[],0⟩:mantle_lot),69) else (bif ((!(zaL p2)) || (!(zaL p3))) then some ((⟨(⟨(⟨[],[],[],[]⟩:Wear),0,(Mp.empty:Mp mantle_coat),[]⟩:mantle_closet),[],[],0⟩:mantle_lot),6) else zao (zct fuel p0 p0.Looks p3) fun y9=>(zau (fun i11 (s11:(List Int)) k11=>zao (zbR p0 (p1.getD i11 default) p2 p3) fun y13=>(bif (decide (y13<0)) then some ((⟨(⟨(⟨[],[],[],[]⟩:Wear),0,(Mp.empty:Mp mantle_coat),[]⟩:mantle_closet),[],[],0⟩:mantle_lot),66) else must (room (s11++([y13]:List Int)).length 8) <| k11 (s11++([y13]:List Int)))) (fun (s11:(List Int))=>some ((⟨y9,p1,s11,p2⟩:mantle_lot),0)) p1.length 0 ([]:List Int))))))
def zdB (fuel:Nat) (p0:Wear) (p1:(List Int)) (p2:Int) (p3:Int) (p4:Int):Option (mantle_lot×Int):=
 zao (zfM fuel p0 p1 p2 p3 p4) fun y1=>zao ((bif (decide (y1.2=0)) then zaQ y1.1.closet else some default)) fun y3=>(bif ((decide (y1.2=0)) && (!y3)) then some ((⟨(⟨(⟨[],[],[],[]⟩:Wear),0,(Mp.empty:Mp mantle_coat),[]⟩:mantle_closet),[],[],0⟩:mantle_lot),65) else some (y1.1,y1.2))
def zb9 (p0:mantle_lot):Option Range:=
 (zau (fun i1 (s1:Range) k1=>zao (zaT p0.closet (p0.mantles.getD i1 default) p0.night) fun y3=>(bif (decide (y3=1)) then must (inI (s1.Lo+1)) <| must (inI (s1.Hi+1)) <| k1 (⟨(s1.Lo+1),(s1.Hi+1)⟩:Range) else (bif (decide (y3=2)) then must (inI (s1.Hi+1)) <| k1 (⟨s1.Lo,(s1.Hi+1)⟩:Range) else k1 s1))) (fun (s1:Range)=>some s1) p0.mantles.length 0 (⟨0,0⟩:Range))
def zgk (fuel:Nat) (p0:Wear) (p1:(List Int)) (p2:Int) (p3:Int):Option (Range×Int):=
 zao (zdB fuel p0 p1 p2 p3 0) fun y1=>(bif (!decide (y1.2=0)) then some ((⟨0,0⟩:Range),y1.2) else zao (zb9 y1.1) fun y4=>some (y4,0))
def zch (p0:mantle_lot):Option (List Int):=
 (zau (fun i1 (s1:(List Int)) k1=>zao (zaT p0.closet (p0.mantles.getD i1 default) p0.night) fun y3=>(bif (decide (y3=2)) then must (room (s1++([(i1:Int)]:List Int)).length 8) <| k1 (s1++([(i1:Int)]:List Int)) else k1 s1)) (fun (s1:(List Int))=>some s1) p0.mantles.length 0 ([]:List Int))
def zb8 (p0:(List Range)):Option (List Range):=
 must (room (([]:List Range)++p0).length 16) <| some (([]:List Range)++p0)
def zcn (p0:mantle_closet) (p1:Int) (p2:Range):Option mantle_closet:=
 must (0≤(p1:Int)∧(p1:Int)<((p0.lives.length:Nat):Int)) <| must (0≤(p1:Int)∧(p1:Int)<((p0.lives.length:Nat):Int)) <| some (⟨p0.w,p0.known,p0.coats,(p0.lives.set (p1).toNat (zaU (p0.lives.getD (p1).toNat default) p2))⟩:mantle_closet)
def zca (p0:mantle_lot) (p1:(List Int)) (p2:Bool):Option mantle_lot:=
 zao (zb8 p0.closet.lives) fun y4=>(zau (fun i6 (s6:(List Range)×(Mp mantle_coat)) k6=>must (0≤((p1.getD i6 default):Int)∧((p1.getD i6 default):Int)<((p0.mantles.length:Nat):Int)) <| zao (zbz ((s6.2.get (p0.mantles.getD ((p1.getD i6 default)).toNat default)).getD default) (⟨p0.night,p2⟩:mantle_sight)) fun y9=>zao (za6 (⟨p0.closet.w,p0.closet.known,(s6.2.set (p0.mantles.getD ((p1.getD i6 default)).toNat default) y9),s6.1⟩:mantle_closet) (p0.mantles.getD ((p1.getD i6 default)).toNat default)) fun y11=>zao (zbm (((s6.2.set (p0.mantles.getD ((p1.getD i6 default)).toNat default) y9).get (p0.mantles.getD ((p1.getD i6 default)).toNat default)).getD default)) fun y13=>zao (zcn (⟨p0.closet.w,p0.closet.known,(s6.2.set (p0.mantles.getD ((p1.getD i6 default)).toNat default) y9),s6.1⟩:mantle_closet) y11 y13) fun y15=>must (y15.lives.length=s6.1.length) <| k6 (y15.lives,y15.coats)) (fun (s6:(List Range)×(Mp mantle_coat))=>some (⟨(⟨p0.closet.w,p0.closet.known,s6.2,s6.1⟩:mantle_closet),p0.lamps,p0.mantles,p0.night⟩:mantle_lot)) p1.length 0 (y4,p0.closet.coats))
def zbW (p0:mantle_lot) (p1:(List Int)) (p2:Bool):Option Int:=
 zao (zca p0 p1 p2) fun y1=>zao (zch p0) fun y3=>(zau (fun i5 (s5:Int) k5=>must (0≤((y3.getD i5 default):Int)∧((y3.getD i5 default):Int)<((p0.mantles.length:Nat):Int)) <| zao (zaT y1.closet (p0.mantles.getD ((y3.getD i5 default)).toNat default) p0.night) fun y8=>(bif (!decide (y8=2)) then must (inI (s5+1)) <| k5 (s5+1) else k5 s5)) (fun (s5:Int)=>some s5) y3.length 0 0)
def zdM (p0:mantle_lot) (p1:Int) (p2:Bool):Option (List (List Int)):=
 zao (zch p0) fun y1=>(zau (fun i3 (s3:(List Int)) k3=>must (0≤((y1.getD i3 default):Int)∧((y1.getD i3 default):Int)<((p0.mantles.length:Nat):Int)) <| zao (za6 p0.closet (p0.mantles.getD ((y1.getD i3 default)).toNat default)) fun y6=>(bif (decide (y6=p1)) then must (room (s3++([(y1.getD i3 default)]:List Int)).length 8) <| k3 (s3++([(y1.getD i3 default)]:List Int)) else k3 s3)) (fun (s3:(List Int))=>must (inI (((s3.length:Nat):Int)+1)) <| must (0≤((((s3.length:Nat):Int)+1):Int)∧((((s3.length:Nat):Int)+1):Int)≤(((s3.length:Nat):Int)+1)∧room ((((s3.length:Nat):Int)+1):Int).toNat 24) <| must (inI (((s3.length:Nat):Int)+1)) <| must (0≤((((s3.length:Nat):Int)+1):Int)∧((((s3.length:Nat):Int)+1):Int)≤(((s3.length:Nat):Int)+1)∧room ((((s3.length:Nat):Int)+1):Int).toNat 8) <| must (s3.length≤9223372036854775807) <| (zau (fun i14 (s14:(List (List Int))×(List Int)) k14=>zao (zca p0 ([(s3.getD i14 default)]:List Int) p2) fun y16=>must (s3.length≤9223372036854775807) <| (zau (fun i18 (s18:(List Int)) k18=>must (((!decide ((s3.getD i18 default)=(s3.getD i14 default)))=true→(0≤((s3.getD i18 default):Int)∧((s3.getD i18 default):Int)<((p0.mantles.length:Nat):Int)))) <| zao ((bif (!decide ((s3.getD i18 default)=(s3.getD i14 default))) then zaT y16.closet (p0.mantles.getD ((s3.getD i18 default)).toNat default) p0.night else some default)) fun y21=>(bif ((!decide ((s3.getD i18 default)=(s3.getD i14 default))) && (decide (y21=2))) then must (room (s18++([(s3.getD i18 default)]:List Int)).length 8) <| k18 (s18++([(s3.getD i18 default)]:List Int)) else k18 s18)) (fun (s18:(List Int))=>must (inI (((s3.length:Nat):Int)+1)) <| must (((((s3.length:Nat):Int)+1)).toNat≤9223372036854775807) <| (zau (fun i26 (s26:(List (List Int))×(List Int)) k26=>(ziV (fun (k28:(List (List Int))×(List Int)→_)=>(bif (decide ((i26:Int)=0)) then k28 (s26.1,s26.2) else must (inI ((i26:Int) - 1)) <| must ((0:Int)≤(min ((i26:Int) - 1) ((s18.length:Nat):Int))∧((min ((i26:Int) - 1) ((s18.length:Nat):Int)):Int)≤((s18.length:Nat):Int)) <| must (room (([(s3.getD i14 default)]:List Int)++(s18.take ((min ((i26:Int) - 1) ((s18.length:Nat):Int))).toNat)).length 8) <| zao (zbW p0 (([(s3.getD i14 default)]:List Int)++(s18.take ((min ((i26:Int) - 1) ((s18.length:Nat):Int))).toNat)) p2) fun y33=>must (0≤((i26:Int):Int)∧((i26:Int):Int)<((s26.1.length:Nat):Int)) <| must (((!((s26.1.getD i26 default).isEmpty))=true→(0≤((i26:Int):Int)∧((i26:Int):Int)<((s26.2.length:Nat):Int)))) <| (bif (((s26.1.getD i26 default).isEmpty) || (decide ((s26.2.getD i26 default)<y33))) then must (0≤((i26:Int):Int)∧((i26:Int):Int)<((s26.1.length:Nat):Int)) <| must ((([(s3.getD i14 default)]:List Int)++(s18.take ((min ((i26:Int) - 1) ((s18.length:Nat):Int))).toNat)).isEmpty=false) <| must (0≤((i26:Int):Int)∧((i26:Int):Int)<((s26.2.length:Nat):Int)) <| k28 ((s26.1.set i26 (([(s3.getD i14 default)]:List Int)++(s18.take ((min ((i26:Int) - 1) ((s18.length:Nat):Int))).toNat))),(s26.2.set i26 y33)) else k28 (s26.1,s26.2)))) (fun (s28:(List (List Int))×(List Int))=>k26 (s28.1,s28.2)))) (fun (s26:(List (List Int))×(List Int))=>k14 (s26.1,s26.2)) (((((s3.length:Nat):Int)+1)).toNat) 0 (s14.1,s14.2))) s3.length 0 ([]:List Int))) (fun (s14:(List (List Int))×(List Int))=>some s14.1) s3.length 0 ((List.replicate ((((s3.length:Nat):Int)+1)).toNat ([]:(List Int))),(List.replicate ((((s3.length:Nat):Int)+1)).toNat (0:Int))))) y1.length 0 ([]:List Int))
def zdm (p1:Int):Option (List Int):=
 (ziV (fun (k1:Unit→_)=>(bif (decide (p1<0)) then none else k1 ())) (fun (s1:Unit)=>must (inI (0 - 0)) <| must (inI (p1 - (0 - 0))) <| (bif (decide (0<(p1 - (0 - 0)))) then must (0<((p1 - (0 - 0)):Int)∧room ((p1 - (0 - 0))).toNat 8) <| must (0<(List.replicate ((p1 - (0 - 0))).toNat (0:Int)).length∧0≤(0:Int)∧(0:Int)≤(((List.replicate ((p1 - (0 - 0))).toNat (0:Int)).length:Nat):Int)) <| some ((List.replicate ((p1 - (0 - 0))).toNat (0:Int)).take 0) else some ([]:List Int))))
def zdK (p0:(List (List Int))):Option (List Int):=
 (zau (fun i1 (s1:Int) k1=>must (inI (s1+(((p0.getD i1 default).length:Nat):Int))) <| (bif (decide ((s1+(((p0.getD i1 default).length:Nat):Int))<0)) then none else k1 (s1+(((p0.getD i1 default).length:Nat):Int)))) (fun (s1:Int)=>zao (zdm s1) fun y5=>(zau (fun i7 (s7:(List Int)) k7=>must (room (s7++(p0.getD i7 default)).length 8) <| k7 (s7++(p0.getD i7 default))) (fun (s7:(List Int))=>some s7) p0.length 0 y5)) p0.length 0 0)
def zcQ (p0:Range) (p1:Int):Int:=
 (bif (decide (p1<p0.Lo)) then 1 else (bif (decide (p0.Hi≤p1)) then 0 else 2))
def zdo (p0:mantle_lot) (p1:(List Int)) (p2:Int) (p3:Bool):Option Bool:=
 zao (zca p0 p1 p3) fun y1=>zao (zaQ y1.closet) fun y3=>(bif (!y3) then some false else (bif p3 then zao (zb9 y1) fun y7=>some (decide ((zcQ y7 p2)=1)) else zao (zb9 y1) fun y9=>some (decide ((zcQ y9 p2)=0))))
def zc8 (fuel:Nat) (p0:mantle_lot) (p1:Int) (p2:Bool) (post:((List Int)×Bool)→Option Unit):Option Unit:=
 must (p0.closet.w.Batches.length≤9223372036854775807) <| (zau (fun i1 (s1:(Mp (List Int))) k1=>zao (zdM p0 (i1:Int) p2) fun y3=>must (s1.ok) <| zeo (fun q5 (s5:(Mp (List Int))) k5=>(zau (fun i7 (s7:(Mp (List Int))) k7=>zao (zdK ([((s1.get q5).getD default),(y3.getD i7 default)]:List (List Int))) fun y9=>must (inI (q5+(((y3.getD i7 default).length:Nat):Int))) <| zao ((bif (!(!((s7.get (q5+(((y3.getD i7 default).length:Nat):Int))).isSome))) then zbW p0 y9 p2 else some default)) fun y12=>zao ((bif (!(!((s7.get (q5+(((y3.getD i7 default).length:Nat):Int))).isSome))) then zbW p0 ((s7.get (q5+(((y3.getD i7 default).length:Nat):Int))).getD default) p2 else some default)) fun y14=>(bif ((!((s7.get (q5+(((y3.getD i7 default).length:Nat):Int))).isSome)) || (decide (y14<y12))) then must (inI (q5+(((y3.getD i7 default).length:Nat):Int))) <| k7 (s7.set (q5+(((y3.getD i7 default).length:Nat):Int)) y9) else k7 s7)) (fun (s7:(Mp (List Int)))=>k5 s7) y3.length 0 s5)) (fun (s5:(Mp (List Int)))=>k1 s5) s1.card s1.keys (Mp.empty:Mp (List Int))) (fun (s1:(Mp (List Int)))=>(loopGo (fun (s19:Int) k19=>(bif (decide (s19≤((p0.lamps.length:Nat):Int))) then zao ((bif (s1.get s19).isSome then zdo p0 ((s1.get s19).getD default) p1 p2 else some default)) fun y21=>(bif (((s1.get s19).isSome) && y21) then post (((s1.get s19).getD default),true) else must (inI (s19+1)) <| k19 (s19+1)) else post ([],false))) fuel 0)) p0.closet.w.Batches.length 0 ((Mp.empty:Mp (List Int)).set 0 []))
def zeq (fuel:Nat) (p0:Wear) (p1:(List Int)) (p2:Int) (p3:Int) (p4:Int) (p5:Bool) (post:((List Int)×Int)→Option Unit):Option Unit:=
 zao (zdB fuel p0 p1 p2 p3 p4) fun y1=>(bif (!decide (y1.2=0)) then post ([],y1.2) else zc8 fuel y1.1 p4 p5 (fun y4=>(bif (!y4.2) then post ([],3) else (zau (fun i6 (s6:(List Int)) k6=>must (0≤((y4.1.getD i6 default):Int)∧((y4.1.getD i6 default):Int)<((p1.length:Nat):Int)) <| must (room (s6++([(p1.getD ((y4.1.getD i6 default)).toNat default)]:List Int)).length 8) <| k6 (s6++([(p1.getD ((y4.1.getD i6 default)).toNat default)]:List Int))) (fun (s6:(List Int))=>zao (zbV s6) fun y10=>must (y10.length=s6.length) <| post (y10,0)) y4.1.length 0 ([]:List Int)))))
def zbQ (fuel:Nat) (p0:(List Look)) (p1:Look) (p2:Look→Look→Option Int):Option (Int×Bool):=
 (loopGo (fun (s1:Int×Int) k1=>(bif (decide (s1.2<s1.1)) then must (inI (s1.2+s1.1)) <| must (inU (s1.2+s1.1)) <| must (inI (Int.fdiv (s1.2+s1.1) (2 ^ (1:Int).toNat))) <| must (0≤((Int.fdiv (s1.2+s1.1) (2 ^ (1:Int).toNat)):Int)∧((Int.fdiv (s1.2+s1.1) (2 ^ (1:Int).toNat)):Int)<((p0.length:Nat):Int)) <| zao (p2 (p0.getD ((Int.fdiv (s1.2+s1.1) (2 ^ (1:Int).toNat))).toNat default) p1) fun y7=>(bif (decide (y7<0)) then must (inI ((Int.fdiv (s1.2+s1.1) (2 ^ (1:Int).toNat))+1)) <| k1 (s1.1,((Int.fdiv (s1.2+s1.1) (2 ^ (1:Int).toNat))+1)) else k1 ((Int.fdiv (s1.2+s1.1) (2 ^ (1:Int).toNat)),s1.2)) else must (((decide (s1.2<((p0.length:Nat):Int)))=true→(0≤(s1.2:Int)∧(s1.2:Int)<((p0.length:Nat):Int)))) <| zao ((bif (decide (s1.2<((p0.length:Nat):Int))) then p2 (p0.getD (s1.2).toNat default) p1 else some default)) fun y12=>some (s1.2,((decide (s1.2<((p0.length:Nat):Int))) && (decide (y12=0)))))) fuel (((p0.length:Nat):Int),0))
def zcR (p0:Look) (p1:Look):Int:=
 (zbo p0.Source p1.Source)
def zdy (p0:(List Batch)):Option (List Batch):=
 must (room (([]:List Batch)++p0).length 24) <| some (([]:List Batch)++p0)
def zbe (p0:(List Mantle)):Option (List Mantle):=
 must (room (([]:List Mantle)++p0).length 48) <| some (([]:List Mantle)++p0)
def zby (p0:(List Burn)):Option (List Burn):=
 must (room (([]:List Burn)++p0).length 56) <| some (([]:List Burn)++p0)
def za3 (p0:(List Look)):Option (List Look):=
 must (room (([]:List Look)++p0).length 48) <| some (([]:List Look)++p0)
def zdw (p0:List Look) (p1:Int) (p2:Look):Option (List Look):=
 must (0≤p1∧p1≤(p0.length:Int)) <| must (room (p0.length+1) 48) <| some (p0.take p1.toNat++[p2]++p0.drop p1.toNat)
def zfc (fuel:Nat) (p0:Wear) (p1:Look):Option (Wear×Int):=
 zao (zbT p0) fun y1=>(bif (!decide (y1=0)) then some ((⟨[],[],[],[]⟩:Wear),y1) else zao (zbQ fuel p0.Looks p1 (fun x0 x1=>some (zcR x0 x1))) fun y4=>(bif ((!decide ((za2 p1)=0)) || y4.2) then some ((⟨[],[],[],[]⟩:Wear),63) else (bif (decide (((p0.Looks.length:Nat):Int)=60)) then some ((⟨[],[],[],[]⟩:Wear),2) else zao (zdy p0.Batches) fun y8=>zao (zbe p0.Mantles) fun y10=>zao (zby p0.Burns) fun y12=>zao (za3 p0.Looks) fun y14=>zao (zdw y14 y4.1 p1) fun y16=>some ((⟨y8,y10,y12,y16⟩:Wear),0))))
def zcO (p0:(List Look)) (p1:Look→Option Bool):Option Int:=
 (zau (fun i1 (s1:Unit) k1=>zao (p1 (p0.getD i1 default)) fun y3=>(bif y3 then some (i1:Int) else k1 ())) (fun (s1:Unit)=>some (-1)) p0.length 0 ())
def zbw (fuel:Nat) (p0:(List Look)) (p1:Look→Option Bool):Option (List Look):=
 zao (zcO p0 p1) fun y1=>(bif (decide (y1=(-1))) then some p0 else must (inI (y1+1)) <| (loopGo (fun (s5:Int×Int×(List Look)) k5=>(bif (decide (s5.2.1<((s5.2.2.length:Nat):Int))) then must (0≤(s5.2.1:Int)∧(s5.2.1:Int)<((s5.2.2.length:Nat):Int)) <| zao (p1 (s5.2.2.getD (s5.2.1).toNat default)) fun y8=>(bif (!y8) then must (0≤(s5.1:Int)∧(s5.1:Int)<((s5.2.2.length:Nat):Int)) <| must (inI (s5.1+1)) <| must (inI (s5.2.1+1)) <| k5 ((s5.1+1),(s5.2.1+1),(s5.2.2.set (s5.1).toNat (s5.2.2.getD (s5.2.1).toNat default))) else must (inI (s5.2.1+1)) <| k5 (s5.1,(s5.2.1+1),s5.2.2)) else must (0<s5.2.2.length∧0≤(s5.1:Int)∧(s5.1:Int)≤((s5.2.2.length:Nat):Int)) <| must (0<(zaE s5.2.2 ((s5.1).toNat) (s5.2.2.length - (s5.1).toNat) (fun _=>(⟨0,0,0,false,0,0⟩:Look))).length∧0≤(s5.1:Int)∧(s5.1:Int)≤(((zaE s5.2.2 ((s5.1).toNat) (s5.2.2.length - (s5.1).toNat) (fun _=>(⟨0,0,0,false,0,0⟩:Look))).length:Nat):Int)) <| some ((zaE s5.2.2 ((s5.1).toNat) (s5.2.2.length - (s5.1).toNat) (fun _=>(⟨0,0,0,false,0,0⟩:Look))).take ((s5.1).toNat)))) fuel (y1,(y1+1),p0)))
def zdk (p0:Look) (c0:Int) (c1:Wear):Option Bool:=
 zao ((bif (!(!(zax p0.Known p0.Until c0))) then zbR c1 p0.Lamp p0.Night c0 else some default)) fun y1=>some ((!(zax p0.Known p0.Until c0)) || (decide (y1<0)))
def zeM (fuel:Nat) (p0:Wear) (p1:Int):Option (List Look):=
 zao (za3 p0.Looks) fun y1=>zao (zbw fuel y1 (fun x0=>zdk x0 p1 p0)) fun y3=>some y3
def zdx (p0:(List Look)) (p1:Int) (p2:Int):Option (List Look):=
 must (0≤(p1:Int)∧(p1:Int)≤p2∧(p2:Int)≤((p0.length:Nat):Int)∧(((p0.length:Nat):Int):Int)≤((p0.length:Nat):Int)) <| (bif (decide (p1=p2)) then some p0 else must (0<p0.length∧0≤(p1:Int)∧(p1:Int)≤((p0.length:Nat):Int)) <| must (0<p0.length∧0≤(p2:Int)∧(p2:Int)≤((p0.length:Nat):Int)) <| must ((p1).toNat≤(p2).toNat) <| must (0≤((((p0.take ((p1).toNat)++p0.drop ((p2).toNat)).length:Nat):Int):Int)∧((((p0.take ((p1).toNat)++p0.drop ((p2).toNat)).length:Nat):Int):Int)≤((p0.length:Nat):Int)∧(((p0.length:Nat):Int):Int)≤((p0.length:Nat):Int)) <| some (p0.take ((p1).toNat)++p0.drop ((p2).toNat)))
def zgP (p0:(List Look)) (p1:Int):Option (List Look):=
 zao (za3 p0) fun y1=>must (inI (p1+1)) <| zao (zdx y1 p1 (p1+1)) fun y4=>some y4
def zfO (fuel:Nat) (p0:Wear) (p1:Int):Option ((List Int)×Int):=
 zao (zba p0 ([p1]:List Int)) fun y1=>(bif (!decide (y1=0)) then some ([],y1) else zao (zeM fuel p0 p1) fun y4=>zao (zct fuel p0 y4 p1) fun y6=>zao (zaQ y6) fun y8=>(bif y8 then some ([],3) else must (inI (((y4.length:Nat):Int) - 1)) <| (loopGo (fun (s12:Int×(List Look)) k12=>(bif (decide (0≤s12.1)) then zao (zgP s12.2 s12.1) fun y14=>zao (zct fuel p0 y14 p1) fun y16=>zao (zaQ y16) fun y18=>(bif (!y18) then must (inI (s12.1 - 1)) <| k12 ((s12.1 - 1),y14) else must (inI (s12.1 - 1)) <| k12 ((s12.1 - 1),s12.2)) else (zau (fun i23 (s23:(List Int)) k23=>must (room (s23++([(s12.2.getD i23 default).Source]:List Int)).length 8) <| k23 (s23++([(s12.2.getD i23 default).Source]:List Int))) (fun (s23:(List Int))=>some (s23,0)) s12.2.length 0 ([]:List Int)))) fuel ((((y4.length:Nat):Int) - 1),y4))))
def zcN (fuel:Nat) (p0:(List Int)) (p1:(List Int)):Option Bool:=
 (loopGo (fun (s1:Bool×Int) k1=>(bif ((decide (s1.2<((p0.length:Nat):Int))) && s1.1) then must (0≤(s1.2:Int)∧(s1.2:Int)<((p0.length:Nat):Int)) <| must (0≤(s1.2:Int)∧(s1.2:Int)<((p1.length:Nat):Int)) <| must (inI (s1.2+1)) <| k1 ((decide ((p0.getD (s1.2).toNat default)=(p1.getD (s1.2).toNat default))),(s1.2+1)) else some s1.1)) fuel ((decide (((p0.length:Nat):Int)=((p1.length:Nat):Int))),0))
def zc9 (fuel:Nat) (post:Bool→Option Unit):Option Unit:=
 zao (zhA fuel (zan) 10 2 5) fun y1=>zao (zgQ fuel (zan) 1 5) fun y3=>zao (zbH fuel (zan) 10 2 4) fun y5=>zao (zbH fuel (zan) 10 1 5) fun y7=>zao (zgk fuel (zan) ([10,11,12]:List Int) 2 4) fun y9=>zao (zgk fuel (zan) ([10,11,12]:List Int) 2 5) fun y11=>zeq fuel (zan) ([10,11,12]:List Int) 2 4 0 false (fun y13=>zao (zfc fuel (zan) (⟨24,10,3,false,0,0⟩:Look)) fun y14=>zao (zfO fuel y14.1 5) fun y16=>zao ((bif ((((((((((((decide (y1.2=0)) && (decide (y3.2=0))) && (decide (y5.2=0))) && (decide (y7.2=0))) && (decide (y9.2=0))) && (decide (y11.2=0))) && (decide (y13.2=0))) && (decide (y14.2=0))) && (decide (y16.2=0))) && (((((decide (y1.1.Lo=1300)) && (decide (y1.1.Hi=1600))) && ((decide (y3.1.Lo=1000)) && (decide (y3.1.Hi=1599)))) && ((decide (y9.1.Lo=0)) && (decide (y9.1.Hi=2)))) && ((decide (y11.1.Lo=1)) && (decide (y11.1.Hi=2))))) && (decide (y5.1=2))) && (decide (y7.1=0))) then zcN fuel y13.1 ([10]:List Int) else some default)) fun y18=>zao ((bif (((((((((((((decide (y1.2=0)) && (decide (y3.2=0))) && (decide (y5.2=0))) && (decide (y7.2=0))) && (decide (y9.2=0))) && (decide (y11.2=0))) && (decide (y13.2=0))) && (decide (y14.2=0))) && (decide (y16.2=0))) && (((((decide (y1.1.Lo=1300)) && (decide (y1.1.Hi=1600))) && ((decide (y3.1.Lo=1000)) && (decide (y3.1.Hi=1599)))) && ((decide (y9.1.Lo=0)) && (decide (y9.1.Hi=2)))) && ((decide (y11.1.Lo=1)) && (decide (y11.1.Hi=2))))) && (decide (y5.1=2))) && (decide (y7.1=0))) && y18) then zcN fuel y16.1 ([22,24]:List Int) else some default)) fun y20=>post ((((((((((((((decide (y1.2=0)) && (decide (y3.2=0))) && (decide (y5.2=0))) && (decide (y7.2=0))) && (decide (y9.2=0))) && (decide (y11.2=0))) && (decide (y13.2=0))) && (decide (y14.2=0))) && (decide (y16.2=0))) && (((((decide (y1.1.Lo=1300)) && (decide (y1.1.Hi=1600))) && ((decide (y3.1.Lo=1000)) && (decide (y3.1.Hi=1599)))) && ((decide (y9.1.Lo=0)) && (decide (y9.1.Hi=2)))) && ((decide (y11.1.Lo=1)) && (decide (y11.1.Hi=2))))) && (decide (y5.1=2))) && (decide (y7.1=0))) && y18) && y20))
def zdD (fuel:Nat):Option Bool:=zlK (zc9 fuel)
def zcA (p0:Int) (p1:Int) (p2:Int):Bool:=
 ((decide (p1≤p0)) && (decide (p0≤p2)))
def zbg (p0:Batch):Int:=
 (bif (((!(zcA p0.Id 1 99)) || (!(zcA p0.Life.Lo 0 p0.Life.Hi))) || (decide (1000000<p0.Life.Hi))) then 60 else 0)
def zat (p0:Int) (p1:Int):Option Int:=
 must ((p1:Int)≠0) <| must (inI ((Int.tmod p0 p1)+p1)) <| must ((p1:Int)≠0) <| some (Int.tmod ((Int.tmod p0 p1)+p1) p1)
def zbO (p0:(List Int)) (p1:Int):Option Int:=
 (bif (decide (((p0.length:Nat):Int)=0)) then some 0 else must ((((p0.length:Nat):Int):Int)≠0) <| must (0≤((Int.tmod p1 ((p0.length:Nat):Int)):Int)∧((Int.tmod p1 ((p0.length:Nat):Int)):Int)<((p0.length:Nat):Int)) <| some (p0.getD ((Int.tmod p1 ((p0.length:Nat):Int))).toNat default))
def zcc (fuel:Nat) (p0:gasolierref06_Raw) (p1:(List Int)):Option (Wear×Lives):=
 (loopGo (fun (s1:Int×(List Batch)×(List Int)) k1=>(bif (((decide (s1.1<((p0.Batches.length:Nat):Int))) && (decide (s1.1<2))) || (decide (s1.1=0))) then (ziV (fun (k3:(Arr2 Int)→_)=>(bif (decide (s1.1<((p0.Batches.length:Nat):Int))) then must (0≤(s1.1:Int)∧(s1.1:Int)<((p0.Batches.length:Nat):Int)) <| k3 (p0.Batches.getD (s1.1).toNat default) else k3 (⟨40,60⟩:(Arr2 Int)))) (fun (s3:(Arr2 Int))=>zao (zat s3.x0 120) fun y4=>must (inI (s1.1+1)) <| zao (zat s3.x1 90) fun y7=>must (inI (y4+y7)) <| must (room (s1.2.1++([(⟨(s1.1+1),(⟨y4,(y4+y7)⟩:Range)⟩:Batch)]:List Batch)).length 24) <| zao (zbO p1 s1.1) fun y11=>must (inI ((y4+y7) - y4)) <| must (inI (((y4+y7) - y4)+1)) <| zao (zat y11 (((y4+y7) - y4)+1)) fun y15=>must (inI (y4+y15)) <| must (room (s1.2.2++([(y4+y15)]:List Int)).length 8) <| must (inI (s1.1+1)) <| k1 ((s1.1+1),(s1.2.1++([(⟨(s1.1+1),(⟨y4,(y4+y7)⟩:Range)⟩:Batch)]:List Batch)),(s1.2.2++([(y4+y15)]:List Int))))) else (loopGo (fun (s22:Int×(List Mantle)) k22=>(bif ((decide (s22.1<((p0.Mantles.length:Nat):Int))) && (decide (s22.1<7))) then must (0≤(s22.1:Int)∧(s22.1:Int)<((p0.Mantles.length:Nat):Int)) <| must (inI (1+s22.1)) <| zao (zat ((p0.Mantles.getD (s22.1).toNat default).x0) 5) fun y26=>must (inI (1+y26)) <| zao (zat ((p0.Mantles.getD (s22.1).toNat default).x1) ((s1.2.1.length:Nat):Int)) fun y29=>must (inI (1+y29)) <| zao (zat ((p0.Mantles.getD (s22.1).toNat default).x2) 6) fun y32=>zao (zat ((p0.Mantles.getD (s22.1).toNat default).x3) 8) fun y34=>must (room (s22.2++([(⟨(1+s22.1),(1+y26),(1+y29),y32,y34,0⟩:Mantle)]:List Mantle)).length 48) <| must (inI (s22.1+1)) <| k22 ((s22.1+1),(s22.2++([(⟨(1+s22.1),(1+y26),(1+y29),y32,y34,0⟩:Mantle)]:List Mantle))) else (loopGo (fun (s38:Int×(List Burn)×(List Int)) k38=>(bif ((decide (s38.1<((p0.Burns.length:Nat):Int))) && (decide (s38.1<14))) then must (0≤(s38.1:Int)∧(s38.1:Int)<((p0.Burns.length:Nat):Int)) <| zao (zat ((p0.Burns.getD (s38.1).toNat default).x2) 40) fun y41=>must (inI (20+s38.1)) <| zao (zat ((p0.Burns.getD (s38.1).toNat default).x0) 5) fun y44=>must (inI (1+y44)) <| zao (zat ((p0.Burns.getD (s38.1).toNat default).x1) 10) fun y47=>zao (zat ((p0.Burns.getD (s38.1).toNat default).x3) 30) fun y49=>must (inI (y41+y49)) <| zao (zat ((p0.Burns.getD (s38.1).toNat default).x4) 12) fun y52=>must (room (s38.2.1++([(⟨(20+s38.1),(1+y44),y47,(⟨y41,(y41+y49)⟩:Range),y52,0⟩:Burn)]:List Burn)).length 56) <| must (inI (s38.1+2)) <| zao (zbO p1 (s38.1+2)) fun y56=>must (inI ((y41+y49) - y41)) <| must (inI (((y41+y49) - y41)+1)) <| zao (zat y56 (((y41+y49) - y41)+1)) fun y60=>must (inI (y41+y60)) <| must (room (s38.2.2++([(y41+y60)]:List Int)).length 8) <| must (inI (s38.1+1)) <| k38 ((s38.1+1),(s38.2.1++([(⟨(20+s38.1),(1+y44),y47,(⟨y41,(y41+y49)⟩:Range),y52,0⟩:Burn)]:List Burn)),(s38.2.2++([(y41+y60)]:List Int))) else (loopGo (fun (s65:Int×(List Look)) k65=>(bif ((decide (s65.1<((p0.Looks.length:Nat):Int))) && (decide (s65.1<6))) then must (0≤(s65.1:Int)∧(s65.1:Int)<((p0.Looks.length:Nat):Int)) <| must (inI (50+s65.1)) <| zao (zat ((p0.Looks.getD (s65.1).toNat default).x0) 5) fun y69=>must (inI (1+y69)) <| zao (zat ((p0.Looks.getD (s65.1).toNat default).x1) 10) fun y72=>zao (zat ((p0.Looks.getD (s65.1).toNat default).x2) 2) fun y74=>zao (zat ((p0.Looks.getD (s65.1).toNat default).x3) 12) fun y76=>must (room (s65.2++([(⟨(50+s65.1),(1+y69),y72,(decide (y74=1)),y76,0⟩:Look)]:List Look)).length 48) <| must (inI (s65.1+1)) <| k65 ((s65.1+1),(s65.2++([(⟨(50+s65.1),(1+y69),y72,(decide (y74=1)),y76,0⟩:Look)]:List Look))) else some ((⟨s1.2.1,s22.2,s38.2.1,s65.2⟩:Wear),(⟨s1.2.2,s38.2.2⟩:Lives)))) fuel (0,([]:List Look))))) fuel (0,([]:List Burn),([]:List Int))))) fuel (0,([]:List Mantle))))) fuel (0,([]:List Batch),([]:List Int)))
def zbK (fuel:Nat) (p0:(List Mantle)) (p1:Mantle→Option Bool):Option (List Mantle):=
 zao (zbj p0 p1) fun y1=>(bif (decide (y1=(-1))) then some p0 else must (inI (y1+1)) <| (loopGo (fun (s5:Int×Int×(List Mantle)) k5=>(bif (decide (s5.2.1<((s5.2.2.length:Nat):Int))) then must (0≤(s5.2.1:Int)∧(s5.2.1:Int)<((s5.2.2.length:Nat):Int)) <| zao (p1 (s5.2.2.getD (s5.2.1).toNat default)) fun y8=>(bif (!y8) then must (0≤(s5.1:Int)∧(s5.1:Int)<((s5.2.2.length:Nat):Int)) <| must (inI (s5.1+1)) <| must (inI (s5.2.1+1)) <| k5 ((s5.1+1),(s5.2.1+1),(s5.2.2.set (s5.1).toNat (s5.2.2.getD (s5.2.1).toNat default))) else must (inI (s5.2.1+1)) <| k5 (s5.1,(s5.2.1+1),s5.2.2)) else must (0<s5.2.2.length∧0≤(s5.1:Int)∧(s5.1:Int)≤((s5.2.2.length:Nat):Int)) <| must (0<(zaE s5.2.2 ((s5.1).toNat) (s5.2.2.length - (s5.1).toNat) (fun _=>(⟨0,0,0,0,0,0⟩:Mantle))).length∧0≤(s5.1:Int)∧(s5.1:Int)≤(((zaE s5.2.2 ((s5.1).toNat) (s5.2.2.length - (s5.1).toNat) (fun _=>(⟨0,0,0,0,0,0⟩:Mantle))).length:Nat):Int)) <| some ((zaE s5.2.2 ((s5.1).toNat) (s5.2.2.length - (s5.1).toNat) (fun _=>(⟨0,0,0,0,0,0⟩:Mantle))).take ((s5.1).toNat)))) fuel (y1,(y1+1),p0)))
def zcD (p0:Mantle) (c0:Int):Bool:=
 (decide (p0.Source=c0))
def zb0 (fuel:Nat) (p0:(List Burn)) (p1:Burn→Option Bool):Option (List Burn):=
 zao (zb6 p0 p1) fun y1=>(bif (decide (y1=(-1))) then some p0 else must (inI (y1+1)) <| (loopGo (fun (s5:Int×Int×(List Burn)) k5=>(bif (decide (s5.2.1<((s5.2.2.length:Nat):Int))) then must (0≤(s5.2.1:Int)∧(s5.2.1:Int)<((s5.2.2.length:Nat):Int)) <| zao (p1 (s5.2.2.getD (s5.2.1).toNat default)) fun y8=>(bif (!y8) then must (0≤(s5.1:Int)∧(s5.1:Int)<((s5.2.2.length:Nat):Int)) <| must (inI (s5.1+1)) <| must (inI (s5.2.1+1)) <| k5 ((s5.1+1),(s5.2.1+1),(s5.2.2.set (s5.1).toNat (s5.2.2.getD (s5.2.1).toNat default))) else must (inI (s5.2.1+1)) <| k5 (s5.1,(s5.2.1+1),s5.2.2)) else must (0<s5.2.2.length∧0≤(s5.1:Int)∧(s5.1:Int)≤((s5.2.2.length:Nat):Int)) <| must (0<(zaE s5.2.2 ((s5.1).toNat) (s5.2.2.length - (s5.1).toNat) (fun _=>(⟨0,0,0,(⟨0,0⟩:Range),0,0⟩:Burn))).length∧0≤(s5.1:Int)∧(s5.1:Int)≤(((zaE s5.2.2 ((s5.1).toNat) (s5.2.2.length - (s5.1).toNat) (fun _=>(⟨0,0,0,(⟨0,0⟩:Range),0,0⟩:Burn))).length:Nat):Int)) <| some ((zaE s5.2.2 ((s5.1).toNat) (s5.2.2.length - (s5.1).toNat) (fun _=>(⟨0,0,0,(⟨0,0⟩:Range),0,0⟩:Burn))).take ((s5.1).toNat)))) fuel (y1,(y1+1),p0)))
def zcC (p0:Burn) (c0:Int):Bool:=
 (decide (p0.Source=c0))
def zcB (p0:Look) (c0:Int):Bool:=
 (decide (p0.Source=c0))
def zb7 (fuel:Nat) (p0:(List Int)):Option (List Int):=
 (bif (decide (((p0.length:Nat):Int)<2)) then some p0 else (loopGo (fun (s2:Int) k2=>(bif (decide (s2<((p0.length:Nat):Int))) then must (0≤(s2:Int)∧(s2:Int)<((p0.length:Nat):Int)) <| must (inI (s2 - 1)) <| must (0≤((s2 - 1):Int)∧((s2 - 1):Int)<((p0.length:Nat):Int)) <| (bif (decide ((p0.getD (s2).toNat default)=(p0.getD ((s2 - 1)).toNat default))) then must (0<p0.length∧0≤(s2:Int)∧(s2:Int)≤((p0.length:Nat):Int)) <| (loopGo (fun (s9:Int×Int×(List Int)) k9=>(bif (decide (s9.2.1<((s9.2.2.length - (s2).toNat:Nat):Int))) then must (0≤(s9.2.1:Int)∧(s9.2.1:Int)<(((s9.2.2.length - (s2).toNat):Nat):Int)) <| must (inI (s9.2.1 - 1)) <| must (0≤((s9.2.1 - 1):Int)∧((s9.2.1 - 1):Int)<(((s9.2.2.length - (s2).toNat):Nat):Int)) <| (bif (!decide ((s9.2.2.getD ((s2).toNat+(s9.2.1).toNat) default)=(s9.2.2.getD ((s2).toNat+((s9.2.1 - 1)).toNat) default))) then must (0≤(s9.2.1:Int)∧(s9.2.1:Int)<(((s9.2.2.length - (s2).toNat):Nat):Int)) <| must (0≤(s9.1:Int)∧(s9.1:Int)<((s9.2.2.length:Nat):Int)) <| must (inI (s9.1+1)) <| must (inI (s9.2.1+1)) <| k9 ((s9.1+1),(s9.2.1+1),(s9.2.2.set (s9.1).toNat (s9.2.2.getD ((s2).toNat+(s9.2.1).toNat) default))) else must (inI (s9.2.1+1)) <| k9 (s9.1,(s9.2.1+1),s9.2.2)) else must (0<s9.2.2.length∧0≤(s9.1:Int)∧(s9.1:Int)≤((s9.2.2.length:Nat):Int)) <| must (0<(zaE s9.2.2 ((s9.1).toNat) (s9.2.2.length - (s9.1).toNat) (fun _=>0)).length∧0≤(s9.1:Int)∧(s9.1:Int)≤(((zaE s9.2.2 ((s9.1).toNat) (s9.2.2.length - (s9.1).toNat) (fun _=>0)).length:Nat):Int)) <| some ((zaE s9.2.2 ((s9.1).toNat) (s9.2.2.length - (s9.1).toNat) (fun _=>0)).take ((s9.1).toNat)))) fuel (s2,1,p0)) else must (inI (s2+1)) <| k2 (s2+1)) else some p0)) fuel 1))
def zd1 (fuel:Nat) (p0:Wear) (p1:Int) (p2:Int) (p3:Int):Option ((List Int)×Int):=
 zao (zba p0 ([p2,p3]:List Int)) fun y1=>(bif (!decide (y1=0)) then some ([],y1) else zao (zbe p0.Mantles) fun y4=>zao (zbK fuel y4 (fun x0=>some (zcD x0 p1))) fun y6=>zao (zby p0.Burns) fun y8=>zao (zb0 fuel y8 (fun x0=>some (zcC x0 p1))) fun y10=>zao (za3 p0.Looks) fun y12=>zao (zbw fuel y12 (fun x0=>some (zcB x0 p1))) fun y14=>must (inI (((y6.length:Nat):Int)+((y10.length:Nat):Int))) <| must (inI ((((y6.length:Nat):Int)+((y10.length:Nat):Int))+((y14.length:Nat):Int))) <| must (inI (((p0.Mantles.length:Nat):Int)+((p0.Burns.length:Nat):Int))) <| must (inI ((((p0.Mantles.length:Nat):Int)+((p0.Burns.length:Nat):Int))+((p0.Looks.length:Nat):Int))) <| (bif (decide (((((y6.length:Nat):Int)+((y10.length:Nat):Int))+((y14.length:Nat):Int))=((((p0.Mantles.length:Nat):Int)+((p0.Burns.length:Nat):Int))+((p0.Looks.length:Nat):Int)))) then some ([],3) else (zau (fun i21 (s21:(List Int)) k21=>zao (zbH fuel p0 ((p0.Mantles.getD i21 default).Lamp) p2 p3) fun y23=>zao (zbH fuel (⟨p0.Batches,y6,y10,y14⟩:Wear) ((p0.Mantles.getD i21 default).Lamp) p2 p3) fun y25=>(bif ((!decide (y23.1=y25.1)) || (!decide (y23.2=y25.2))) then must (room (s21++([(p0.Mantles.getD i21 default).Lamp]:List Int)).length 8) <| k21 (s21++([(p0.Mantles.getD i21 default).Lamp]:List Int)) else k21 s21)) (fun (s21:(List Int))=>zao (zbV s21) fun y29=>must (y29.length=s21.length) <| zao (zb7 fuel y29) fun y32=>some (y32,0)) p0.Mantles.length 0 ([]:List Int))))
def zbI (fuel:Nat) (p0:Wear) (p1:Int):Option (Wear×Bool):=
 must (room (([]:List Batch)++p0.Batches).length 24) <| (loopGo (fun (s2:Int×(List Mantle)) k2=>(bif (decide (s2.1<((p0.Mantles.length:Nat):Int))) then must (0≤(s2.1:Int)∧(s2.1:Int)<((p0.Mantles.length:Nat):Int)) <| (bif (!decide ((p0.Mantles.getD (s2.1).toNat default).Source=p1)) then must (0≤(s2.1:Int)∧(s2.1:Int)<((p0.Mantles.length:Nat):Int)) <| must (room (s2.2++([(p0.Mantles.getD (s2.1).toNat default)]:List Mantle)).length 48) <| must (inI (s2.1+1)) <| k2 ((s2.1+1),(s2.2++([(p0.Mantles.getD (s2.1).toNat default)]:List Mantle))) else must (inI (s2.1+1)) <| k2 ((s2.1+1),s2.2)) else (loopGo (fun (s10:Int×(List Burn)) k10=>(bif (decide (s10.1<((p0.Burns.length:Nat):Int))) then must (0≤(s10.1:Int)∧(s10.1:Int)<((p0.Burns.length:Nat):Int)) <| (bif (!decide ((p0.Burns.getD (s10.1).toNat default).Source=p1)) then must (0≤(s10.1:Int)∧(s10.1:Int)<((p0.Burns.length:Nat):Int)) <| must (room (s10.2++([(p0.Burns.getD (s10.1).toNat default)]:List Burn)).length 56) <| must (inI (s10.1+1)) <| k10 ((s10.1+1),(s10.2++([(p0.Burns.getD (s10.1).toNat default)]:List Burn))) else must (inI (s10.1+1)) <| k10 ((s10.1+1),s10.2)) else (loopGo (fun (s18:Int×(List Look)) k18=>(bif (decide (s18.1<((p0.Looks.length:Nat):Int))) then must (0≤(s18.1:Int)∧(s18.1:Int)<((p0.Looks.length:Nat):Int)) <| (bif (!decide ((p0.Looks.getD (s18.1).toNat default).Source=p1)) then must (0≤(s18.1:Int)∧(s18.1:Int)<((p0.Looks.length:Nat):Int)) <| must (room (s18.2++([(p0.Looks.getD (s18.1).toNat default)]:List Look)).length 48) <| must (inI (s18.1+1)) <| k18 ((s18.1+1),(s18.2++([(p0.Looks.getD (s18.1).toNat default)]:List Look))) else must (inI (s18.1+1)) <| k18 ((s18.1+1),s18.2)) else must (inI (((s2.2.length:Nat):Int)+((s10.2.length:Nat):Int))) <| must (inI ((((s2.2.length:Nat):Int)+((s10.2.length:Nat):Int))+((s18.2.length:Nat):Int))) <| must (inI (((p0.Mantles.length:Nat):Int)+((p0.Burns.length:Nat):Int))) <| must (inI ((((p0.Mantles.length:Nat):Int)+((p0.Burns.length:Nat):Int))+((p0.Looks.length:Nat):Int))) <| some ((⟨(([]:List Batch)++p0.Batches),s2.2,s10.2,s18.2⟩:Wear),(decide (((((s2.2.length:Nat):Int)+((s10.2.length:Nat):Int))+((s18.2.length:Nat):Int))<((((p0.Mantles.length:Nat):Int)+((p0.Burns.length:Nat):Int))+((p0.Looks.length:Nat):Int))))))) fuel (0,([]:List Look))))) fuel (0,([]:List Burn))))) fuel (0,([]:List Mantle)))
def zbX (fuel:Nat) (p0:Wear):Option (List Int):=
 (loopGo (fun (s1:Int×(List Int)) k1=>(bif (decide (s1.1<((p0.Mantles.length:Nat):Int))) then (loopGo (fun (s3:Int) k3=>must (((decide (s3<((s1.2.length:Nat):Int)))=true→(0≤(s3:Int)∧(s3:Int)<((s1.2.length:Nat):Int)))) <| must (((decide (s3<((s1.2.length:Nat):Int)))=true→(0≤(s1.1:Int)∧(s1.1:Int)<((p0.Mantles.length:Nat):Int)))) <| (bif ((decide (s3<((s1.2.length:Nat):Int))) && (decide ((s1.2.getD (s3).toNat default)<(p0.Mantles.getD (s1.1).toNat default).Lamp))) then must (inI (s3+1)) <| k3 (s3+1) else must (((!(decide (s3=((s1.2.length:Nat):Int))))=true→(0≤(s3:Int)∧(s3:Int)<((s1.2.length:Nat):Int)))) <| must (((!(decide (s3=((s1.2.length:Nat):Int))))=true→(0≤(s1.1:Int)∧(s1.1:Int)<((p0.Mantles.length:Nat):Int)))) <| (bif ((decide (s3=((s1.2.length:Nat):Int))) || (!decide ((s1.2.getD (s3).toNat default)=(p0.Mantles.getD (s1.1).toNat default).Lamp))) then must ((0:Int)≤s3∧(s3:Int)≤((s1.2.length:Nat):Int)) <| must (room (([]:List Int)++(s1.2.take (s3).toNat)).length 8) <| must (0≤(s1.1:Int)∧(s1.1:Int)<((p0.Mantles.length:Nat):Int)) <| must (room ((([]:List Int)++(s1.2.take (s3).toNat))++([(p0.Mantles.getD (s1.1).toNat default).Lamp]:List Int)).length 8) <| must ((0:Int)≤s3∧(s3:Int)≤((s1.2.length:Nat):Int)) <| must (room (((([]:List Int)++(s1.2.take (s3).toNat))++([(p0.Mantles.getD (s1.1).toNat default).Lamp]:List Int))++(s1.2.drop (s3).toNat)).length 8) <| must (inI (s1.1+1)) <| k1 ((s1.1+1),(((([]:List Int)++(s1.2.take (s3).toNat))++([(p0.Mantles.getD (s1.1).toNat default).Lamp]:List Int))++(s1.2.drop (s3).toNat))) else must (inI (s1.1+1)) <| k1 ((s1.1+1),s1.2)))) fuel 0) else some s1.2)) fuel (0,([]:List Int)))
def zco (fuel:Nat) (p0:(List Int)) (p1:Int):Option Bool:=
 (loopGo (fun (s1:Int) k1=>(bif (decide (s1<((p0.length:Nat):Int))) then must (0≤(s1:Int)∧(s1:Int)<((p0.length:Nat):Int)) <| (bif (decide ((p0.getD (s1).toNat default)=p1)) then some true else must (inI (s1+1)) <| k1 (s1+1)) else some false)) fuel 0)
def zaZ (fuel:Nat) (p0:gasolierref06_Raw) (p1:(Arr3 Int)):Option Bool:=
 zao (zdD 20000) fun y1=>zao (zat p1.x0 11) fun y3=>zao (zat p1.x1 13) fun y5=>zao (zcc fuel p0 []) fun y7=>must (room (([]:List Batch)++y7.1.Batches).length 24) <| (loopGo (fun (s10:Int×(List Mantle)) k10=>(bif (decide (s10.1<((y7.1.Mantles.length:Nat):Int))) then must (0≤(s10.1:Int)∧(s10.1:Int)<((y7.1.Mantles.length:Nat):Int)) <| (bif (decide ((y7.1.Mantles.getD (s10.1).toNat default).Known≤y5)) then must (0≤(s10.1:Int)∧(s10.1:Int)<((y7.1.Mantles.length:Nat):Int)) <| must (room (s10.2++([(y7.1.Mantles.getD (s10.1).toNat default)]:List Mantle)).length 48) <| must (inI (s10.1+1)) <| k10 ((s10.1+1),(s10.2++([(y7.1.Mantles.getD (s10.1).toNat default)]:List Mantle))) else must (inI (s10.1+1)) <| k10 ((s10.1+1),s10.2)) else (loopGo (fun (s18:Int×(List Burn)) k18=>(bif (decide (s18.1<((y7.1.Burns.length:Nat):Int))) then must (0≤(s18.1:Int)∧(s18.1:Int)<((y7.1.Burns.length:Nat):Int)) <| (bif (decide ((y7.1.Burns.getD (s18.1).toNat default).Known≤y5)) then must (0≤(s18.1:Int)∧(s18.1:Int)<((y7.1.Burns.length:Nat):Int)) <| must (room (s18.2++([(y7.1.Burns.getD (s18.1).toNat default)]:List Burn)).length 56) <| must (inI (s18.1+1)) <| k18 ((s18.1+1),(s18.2++([(y7.1.Burns.getD (s18.1).toNat default)]:List Burn))) else must (inI (s18.1+1)) <| k18 ((s18.1+1),s18.2)) else (loopGo (fun (s26:Int×(List Look)) k26=>(bif (decide (s26.1<((y7.1.Looks.length:Nat):Int))) then must (0≤(s26.1:Int)∧(s26.1:Int)<((y7.1.Looks.length:Nat):Int)) <| (bif (decide ((y7.1.Looks.getD (s26.1).toNat default).Known≤y5)) then must (0≤(s26.1:Int)∧(s26.1:Int)<((y7.1.Looks.length:Nat):Int)) <| must (room (s26.2++([(y7.1.Looks.getD (s26.1).toNat default)]:List Look)).length 48) <| must (inI (s26.1+1)) <| k26 ((s26.1+1),(s26.2++([(y7.1.Looks.getD (s26.1).toNat default)]:List Look))) else must (inI (s26.1+1)) <| k26 ((s26.1+1),s26.2)) else zao (zat p1.x2 3) fun y34=>must (0≤(y34:Int)∧(y34:Int)<((3:Nat):Int)) <| must ((3:Int)≠0∧inI (Int.tdiv p1.x2 3)) <| zao (zat (Int.tdiv p1.x2 3) 7) fun y38=>must (inI ((([1,20,50]:List Int).getD ((y34).toNat) 0)+y38)) <| zao (zbI fuel y7.1 ((([1,20,50]:List Int).getD ((y34).toNat) 0)+y38)) fun y41=>zao (zd1 fuel y7.1 ((([1,20,50]:List Int).getD ((y34).toNat) 0)+y38) y3 y5) fun y43=>(bif (((!y1) || (!(y41.2 == (decide (y43.2=0))))) || ((!y41.2) && (!decide (y43.2=3)))) then some false else zao (zbX fuel y7.1) fun y46=>(loopGo (fun (s48:Int) k48=>(bif (decide (s48<((y46.length:Nat):Int))) then must (0≤(s48:Int)∧(s48:Int)<((y46.length:Nat):Int)) <| zao (zbH fuel y7.1 (y46.getD (s48).toNat default) y3 y5) fun y51=>must (0≤(s48:Int)∧(s48:Int)<((y46.length:Nat):Int)) <| zao (zbH fuel (⟨(([]:List Batch)++y7.1.Batches),s10.2,s18.2,s26.2⟩:Wear) (y46.getD (s48).toNat default) y3 y5) fun y54=>must (0≤(s48:Int)∧(s48:Int)<((y46.length:Nat):Int)) <| zao (zbH fuel y41.1 (y46.getD (s48).toNat default) y3 y5) fun y57=>must ((((!((!decide (y51.1=y54.1)) || (!decide (y51.2=y54.2)))) && y41.2)=true→(0≤(s48:Int)∧(s48:Int)<((y46.length:Nat):Int)))) <| zao ((bif ((!((!decide (y51.1=y54.1)) || (!decide (y51.2=y54.2)))) && y41.2) then zco fuel y43.1 (y46.getD (s48).toNat default) else some default)) fun y60=>(bif (((!decide (y51.1=y54.1)) || (!decide (y51.2=y54.2))) || (y41.2 && (y60 == ((decide (y51.1=y57.1)) && (decide (y51.2=y57.2)))))) then some false else must (inI (s48+1)) <| k48 (s48+1)) else some true)) fuel 0)))) fuel (0,([]:List Look))))) fuel (0,([]:List Burn))))) fuel (0,([]:List Mantle)))
end Go.Sp
end
