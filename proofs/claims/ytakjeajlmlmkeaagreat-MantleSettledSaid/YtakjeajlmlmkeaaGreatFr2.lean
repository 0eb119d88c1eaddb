/- Texts of the framework, or of the plain law, one behind another. -/
import Derived.Test.YtakjeajlmlmkeaaGreatFr1
import Derived.Deep.AppendSrc
import Derived.Laws.CopyRow
import Derived.Laws.IdiomCopy
import Derived.CallsIn
import Derived.OrdersIn
/- The evaluator is right, part 9: the rest, and the whole for operations that are no calls of Go functions. -/
section
set_option linter.all false
namespace Go.Av
section
variable {P:Program} {N:Nat} {C:Ctx} {h:Hp} {ρ:Rho} {F:Fr} {M:Mm} {g:Nat} {a:Act} {w:World} {Γ:Tys} {mg:Mm} {o:Oper}
theorem zov {sz n:Nat} {el:Nat→List AV} {ad:Option Addr} {cap l hh:Nat} (H:Rel h ρ (.ro sz n el) (.slice ad n cap)) (hl:l≤hh) (hn:hh≤n) :
 Rel h ρ (.ro sz (hh - l) (fun k=>el (l+k))) (.slice (if cap=l then ad else ad.map (·.add (l * sz))) (hh - l) (cap - l)):=by
 cases H with
 | ro _ _ _ _ _ _ hnil hcap hsz hs h1 hc=>
  by_cases hcl:cap=l
  · rw [if_pos hcl]
    have hz:hh - l=0:=by omega
    rw [hz]
    exact .ro _ _ _ _ _ _ (fun _=>rfl) ⟨Nat.zero_le _,Nat.zero_le _⟩ (fun i hi=>by omega) (fun i j hi=>by omega) (fun k v hk=>by simp at hk) (fun i j c v hi=>by omega)
  · rw [if_neg hcl]
    have hcell:∀ k,hcell h (ad.map (·.add (l * sz))) k=hcell h ad (l * sz+k):=by
     intro k
     cases ad with
     | none=>rfl
     | some ad=>simp only [Option.map_some,Av.hcell,ziY]
    have hidx:∀ i j,l * sz+(i * sz+j)=(l+i) * sz+j:=fun i j=>by rw [Nat.add_mul];omega
    refine .ro _ _ _ _ _ _ (fun e=>?_) ⟨by omega,by omega⟩ (fun i hi=>hsz _ (by omega)) (fun i j hi hj=>?_) (fun k v hk hv=>?_) (fun i j c v hi hj hv=>?_)
    · cases ad with
      | none=>have:=hnil rfl;omega
      | some _=>cases e
    · rw [hcell,hidx];exact hs _ _ (by omega) hj
    · rw [hcell] at hv
      refine h1 _ v ?_ hv
      have:(hh - l) * sz+l * sz≤n * sz:=by rw [← Nat.add_mul];exact Nat.mul_le_mul_right _ (by omega)
      omega
    · rw [hcell,hidx] at hv
      exact hc _ _ c v (by omega) hj hv
theorem zpV {sz n:Nat} {el:Nat→List AV} {ad:Option Addr} {cap c hh:Nat} (H:Rel h ρ (.ro sz n el) (.slice ad n cap)) (hl:hh≤c) (hn:c≤n) :
 Rel h ρ (.ro sz hh el) (.slice (if c=0 then ad else ad.map (·.add (0 * sz))) hh (c - 0)):=by
 cases H with
 | ro _ _ _ _ _ _ hnil hcap hsz hs h1 hc=>
  by_cases hcl:c=0
  · have hz:hh=0:=by omega
    rw [if_pos hcl,hz]
    exact .ro _ _ _ _ _ _ (fun _=>rfl) ⟨Nat.zero_le _,by omega⟩ (fun i hi=>by omega) (fun i j hi=>by omega) (fun k v hk=>by simp at hk) (fun i j c v hi=>by omega)
  · rw [if_neg hcl]
    have hcell:∀ k,hcell h (ad.map (·.add (0 * sz))) k=hcell h ad k:=by
     intro k
     cases ad with
     | none=>rfl
     | some ad=>simp only [Option.map_some,Av.hcell,ziY];congr 2;omega
    refine .ro _ _ _ _ _ _ (fun e=>?_) ⟨by omega,by omega⟩ (fun i hi=>hsz _ (by omega)) (fun i j hi hj=>?_) (fun k v hk hv=>?_) (fun i j c v hi hj hv=>?_)
    · cases ad with
      | none=>have:=hnil rfl;omega
      | some _=>cases e
    · rw [hcell];exact hs _ _ (by omega) hj
    · rw [hcell] at hv
      refine h1 _ v ?_ hv
      have:hh * sz≤n * sz:=Nat.mul_le_mul_right _ (by omega)
      omega
    · rw [hcell] at hv
      exact hc _ _ c v (by omega) hj hv
theorem zhu {sz n:Nat} {el:Nat→List AV} {v:Value} (H:Rel h ρ (.ro sz n el) v):∃ ad cap,v = .slice ad n cap∧n≤cap:=by
 cases H with
 | ro _ _ _ _ ad cap _ hcap _ _ _ _=>exact ⟨ad,cap,rfl,hcap.1⟩
theorem run_sliceBound {i:Int} {y:Nat} {code:BoundsCode} (hi:0≤i∧i≤(y:Int)) (w:World):(Instr.sliceBound (.int .i64 i) y code).run P w = .ok i.toNat w:=by
 simp only [Instr.sliceBound,asIntOf,Sem.run_bind,Sem.run_pure,Result.andThen_ok]
 rw [if_pos hi];rfl
theorem zqk (hΓ:zbC P Γ) (I:InvH N C h ρ F M g a w) {t:TypeId} {x:Operand} {lo hi:Option Operand} (ho:o.op = .slice t x lo hi none) {val:Operand→AV} (hv:∀ y,y∈o.op.operands→Rel h ρ (val y) (a.eval y)) {r:R}
 (hr:zmK Γ t (val x) (optV val lo) (optV val hi)=some r) (hc:∀ q,r.cs=some q→q):Good P N C h ρ F M g a o w r:=by
 unfold zmK at hr
 cases hT:tyOf Γ t with
 | none=>simp [hT] at hr
 | some T=>
 simp only [hT] at hr
 cases hd:T.d <;> simp only [hd] at hr <;> (try (cases hr;done))
 rename_i e
 cases hE:tyOf Γ e with
 | none=>simp [hE] at hr
 | some E=>
 simp only [hE] at hr
 have hu:=(hΓ t T hT).zbz hd
 have hEy:=hΓ e E hE
 have hx:Rel h ρ (val x) (a.eval x):=hv x (by rw [ho];simp [Op.operands])
 cases hvx:val x <;> simp only [hvx] at hr <;> (try (cases hr;done))
 case nilS=>
  rw [hvx] at hx
  have hax:a.eval x = .slice none 0 0:=by generalize a.eval x=v at hx;cases hx;rfl
  cases lo with
  | some y=>cases hi <;> simp [optV] at hr
  | none=>
  cases hi with
  | none=>simp [optV] at hr
  | some y=>
  simp only [optV] at hr
  cases hvy:val y <;> simp only [hvy] at hr <;> (try (cases hr;done))
  rename_i kk b
  cases kk <;> (try simp only [] at hr) <;> (try (cases hr;done))
  cases hr
  obtain rfl:b=0:=hc _ rfl
  have hy:=hv y (by rw [ho];simp [Op.operands])
  rw [hvy] at hy
  have hay:a.eval y = .int .i64 0:=by generalize a.eval y=v at hy;cases hy;rfl
  refine Good.same (r:=R.zcF .nilS ((0:Int)=0)) I (x:=.slice none 0 0) (.inl ?_) rfl (.nilS _)
  unfold execOp
  have hsb:(Instr.sliceBounds true 0 0 none (some (.int .i64 0)) none).run P w = .ok (0,0,0) w:=by
   simp only [Instr.sliceBounds,Sem.run_bind,Sem.run_pure,Result.andThen_ok,run_sliceBound (P:=P) (i:=0) (y:=0) ⟨by omega,by omega⟩]
   rfl
  simp only [ho,hax,hay,Instr.sliceAt,Instr.slice,Sem.run_bind,run_underlying hu,Result.andThen_ok,hsb,hEy.zdx w,Sem.run_pure,Option.map_none,Option.map_some]
  rfl
 rename_i sz n el
 cases hb:Nat.beq sz E.size with
 | false=>simp [hb] at hr
 | true=>
 simp only [hb] at hr
 have hsz:=Nat.eq_of_beq_eq_true hb
 rw [hvx] at hx
 obtain ⟨ad,cap,hax,hcap⟩:=zhu hx
 rw [hax] at hx
 -- the run,once the bounds are known
 have fin:∀ (l hh:Nat) (lv hv':Option Value),l≤hh→hh≤n→(Instr.sliceBounds true n cap lv hv' none).run P w = .ok (l,hh,cap) w→lo.map a.eval=lv→hi.map a.eval=hv' →
  ∀ el',(∀ k,el' k=el (l+k))→∀ n',n'=hh - l→∀ q,Good P N C h ρ F M g a o w ⟨.ro sz n' el',[],[],q,none⟩:=by
  intro l hh lv hv' hlh hhn hrun h1 h2 el' hel n' hn' q
  have hrel:=zov hx hlh hhn
  have hel':el'=fun k=>el (l+k):=funext hel
  rw [hel',hn']
  refine Good.same I (.inl ?_) rfl hrel
  unfold execOp
  simp only [ho,hax,h1,h2,Instr.sliceAt,Instr.slice,Sem.run_bind,run_underlying hu,Result.andThen_ok,hrun,hEy.zdx w,Sem.run_pure,Option.map_none,← hsz]
 have hlo:∀ y,lo=some y→Rel h ρ (val y) (a.eval y):=fun y hy=>hv y (by rw [ho,hy];cases hi <;> simp [Op.operands])
 have hhi:∀ y,hi=some y→Rel h ρ (val y) (a.eval y):=fun y hy=>hv y (by rw [ho,hy];cases lo <;> simp [Op.operands])
 cases lo with
 | none=>
  cases hi with
  | none=>
   simp only [optV] at hr
   cases hr
   exact fin 0 n none none (Nat.zero_le _) (Nat.le_refl _) (by simp [Instr.sliceBounds]) rfl rfl el (fun k=>by simp) n (by omega) none
  | some y=>
   have hy:=hhi y rfl
   simp only [optV] at hr
   cases hvy:val y <;> simp only [hvy] at hr <;> (try (cases hr;done))
   rename_i kk b
   cases kk <;> (try simp only [] at hr) <;> (try (cases hr;done))
   cases hr
   obtain ⟨q1,q2⟩:0≤b∧b≤(n:Int):=hc _ rfl
   rw [hvy] at hy
   generalize hye:a.eval y=yv at hy
   cases hy
   exact fin 0 b.toNat none (some (.int .i64 b)) (Nat.zero_le _) (by omega) (by
    simp only [Instr.sliceBounds,Sem.run_bind,Sem.run_pure,Result.andThen_ok,run_sliceBound (P:=P) (i:=b) (y:=cap) ⟨q1,by omega⟩]) rfl (by simp [hye]) el (fun k=>by simp) _ (by omega) _
 | some z=>
  have hz:=hlo z rfl
  cases hi with
  | none=>
   simp only [optV] at hr
   cases hvz:val z <;> simp only [hvz] at hr <;> (try (cases hr;done))
   rename_i kk b
   cases kk <;> (try simp only [] at hr) <;> (try (cases hr;done))
   cases hr
   obtain ⟨q1,q2⟩:0≤b∧b≤(n:Int):=hc _ rfl
   rw [hvz] at hz
   generalize hze:a.eval z=zv at hz
   cases hz
   exact fin b.toNat n (some (.int .i64 b)) none (by omega) (Nat.le_refl _) (by
    simp only [Instr.sliceBounds,Sem.run_bind,Sem.run_pure,Result.andThen_ok,run_sliceBound (P:=P) (i:=b) (y:=n) ⟨q1,q2⟩]) (by simp [hze]) rfl _ (fun k=>rfl) _ rfl _
  | some y=>
   have hy:=hhi y rfl
   simp only [optV] at hr
   cases hvz:val z <;> simp only [hvz] at hr <;> (try (cases hr;done))
   rename_i kk b
   cases kk <;> (try simp only [] at hr) <;> (try (cases hr;done))
   cases hvy:val y <;> simp only [hvy] at hr <;> (try (cases hr;done))
   rename_i kk c
   cases kk <;> (try simp only [] at hr) <;> (try (cases hr;done))
   cases hr
   obtain ⟨q1,q2,q3⟩:0≤b∧b≤c∧c≤(n:Int):=hc _ rfl
   rw [hvz] at hz
   rw [hvy] at hy
   generalize hze:a.eval z=zv at hz
   generalize hye:a.eval y=yv at hy
   cases hz;cases hy
   exact fin b.toNat c.toNat (some (.int .i64 b)) (some (.int .i64 c)) (by omega) (by omega) (by
    simp only [Instr.sliceBounds,Sem.run_bind,Sem.run_pure,Result.andThen_ok,run_sliceBound (P:=P) (i:=c) (y:=cap) ⟨by omega,by omega⟩,run_sliceBound (P:=P) (i:=b) (y:=c.toNat) ⟨q1,by omega⟩]) (by simp [hze]) (by simp [hye]) _ (fun k=>rfl) _ rfl _
theorem zpd (hΓ:zbC P Γ) (I:InvH N C h ρ F M g a w) {t:TypeId} {x:Operand} {lo hi:Option Operand} {m:Operand} (ho:o.op = .slice t x lo hi (some m)) {val:Operand→AV} (hv:∀ y,y∈o.op.operands→Rel h ρ (val y) (a.eval y)) {r:R}
 (hr:zk0 Γ t (val x) (optV val lo) (optV val hi) (val m)=some r) (hc:∀ q,r.cs=some q→q):Good P N C h ρ F M g a o w r:=by
 unfold zk0 at hr
 cases hT:tyOf Γ t with
 | none=>simp [hT] at hr
 | some T=>
 simp only [hT] at hr
 cases hd:T.d <;> simp only [hd] at hr <;> (try (cases hr;done))
 rename_i e
 cases hE:tyOf Γ e with
 | none=>simp [hE] at hr
 | some E=>
 simp only [hE] at hr
 have hu:=(hΓ t T hT).zbz hd
 have hEy:=hΓ e E hE
 have hx:Rel h ρ (val x) (a.eval x):=hv x (by rw [ho];simp [Op.operands])
 cases hvx:val x <;> simp only [hvx] at hr <;> (try (cases hr;done))
 rename_i sz n el
 cases hb:Nat.beq sz E.size with
 | false=>simp [hb] at hr
 | true=>
 simp only [hb] at hr
 have hsz:=Nat.eq_of_beq_eq_true hb
 rw [hvx] at hx
 obtain ⟨ad,cap,hax,hcap⟩:=zhu hx
 rw [hax] at hx
 cases lo with
 | some y=>simp [optV] at hr
 | none=>
 cases hi with
 | none=>simp [optV] at hr
 | some y=>
 have hy:=hv y (by rw [ho];simp [Op.operands])
 have hm:=hv m (by rw [ho];simp [Op.operands])
 simp only [optV] at hr
 cases hvy:val y <;> simp only [hvy] at hr <;> (try (cases hr;done))
 rename_i kk b
 cases kk <;> (try simp only [] at hr) <;> (try (cases hr;done))
 cases hvm:val m <;> simp only [hvm] at hr <;> (try (cases hr;done))
 rename_i kk c
 cases kk <;> (try simp only [] at hr) <;> (try (cases hr;done))
 cases hr
 obtain ⟨q1,q2,q3⟩:0≤b∧b≤c∧c≤(n:Int):=hc _ rfl
 rw [hvy] at hy
 rw [hvm] at hm
 generalize hye:a.eval y=yv at hy
 generalize hme:a.eval m=mv at hm
 cases hy;cases hm
 refine Good.same I (.inl ?_) rfl (zpV hx (hh:=b.toNat) (c:=c.toNat) (by omega) (by omega))
 unfold execOp
 have hrun:(Instr.sliceBounds true n cap none (some (.int .i64 b)) (some (.int .i64 c))).run P w = .ok (0,b.toNat,c.toNat) w:=by
  simp only [Instr.sliceBounds,Sem.run_bind,Sem.run_pure,Result.andThen_ok,if_true,run_sliceBound (P:=P) (i:=c) (y:=cap) ⟨by omega,by omega⟩,run_sliceBound (P:=P) (i:=b) (y:=c.toNat) ⟨q1,by omega⟩]
 simp only [ho,hax,hye,hme,Option.map_none,Option.map_some,Instr.sliceAt,Instr.slice,Sem.run_bind,run_underlying hu,Result.andThen_ok,hrun,hEy.zdx w,Sem.run_pure,← hsz]
 rfl
theorem execOp_builtin {a:Act} {o:Oper} {b:Builtin} {args:Array Operand} {ts:Array TypeId} (ho:o.op = .call { callee:=.builtin b,args:=args,argTypes:=ts }) {v:Value} {w w':World}
 (hr:(builtin b ts o.type (args.map fun|.const _=>true|_=>false) (args.map a.eval)).run P w = .ok (.value v) w'):(execOp a.eval o).run P w = .ok (.value v) w':=by
 unfold execOp
 simp only [ho,resolve,invoke,Sem.run_bind,Sem.run_pure,Result.andThen_ok]
 exact hr
theorem zkt (z:Array Value) (n k:Nat) (hz:0<z.size):Builtin.zeroCells z n++Builtin.zeroCells z k=madeCells z ((n+k) * z.size):=by
 apply Array.ext
 · simp [size_zeroCells,size_madeCells,Nat.add_mul]
 · intro i h1 h2
   simp only [size_madeCells] at h2
   rw [Array.getElem_append]
   split
   · simp [Builtin.zeroCells,madeCells]
   · rename_i hlt
     simp only [size_zeroCells,Nat.not_lt] at hlt
     simp only [Builtin.zeroCells,madeCells,Array.getElem_map,Array.getElem_range]
     have:(i - (Array.map (fun i=>z[i % z.size]!) (Array.range (n * z.size))).size) % z.size=i % z.size:=by
      simp only [Array.size_map,Array.size_range]
      obtain ⟨q,rfl⟩:∃ q,i=n * z.size+q:=⟨i - n * z.size,by omega⟩
      rw [show n * z.size+q - n * z.size=q by omega,Nat.mul_comm,Nat.mul_add_mod]
     rw [this]
theorem zn6 (hΓ:zbC P Γ) (I:InvH N C h ρ F M g a w) {t tn:TypeId} {x y:Operand} (ho:o.op = .call { callee:=.builtin .append,args:=#[x,y],argTypes:=#[t,tn] }) {s v:AV} (hx:Rel h ρ s (a.eval x)) (hy:Rel h ρ v (a.eval y)) {r:R}
 (hr:zjz Γ mg o t tn s v=some r) (hm:∀ id,id∈r.rd→M id=mg id) (hc:∀ q,r.cs=some q→q):Good P N C h ρ F M g a o w r:=by
 unfold zjz at hr
 split at hr
 rotate_left
 · cases hr
 rename_i T hT
 split at hr
 rotate_left
 · cases hr
 rename_i e hd
 split at hr
 rotate_left
 · cases hr
 rename_i E hE
 split at hr
 · cases hr
 rename_i sz0 hsz0
 split at hr
 rotate_left
 · cases hr
 rename_i TN hTN
 split at hr
 rotate_left
 · cases hr
 rename_i hdn'
 split at hr
 rotate_left
 · cases hr
 rename_i n
 split at hr
 rotate_left
 · cases hr
 rename_i d hf
 cases hr
 obtain ⟨hn0,hq3,hq4⟩:=hc _ rfl
 have hdn:=(hm d (by simp)).trans (zcM hf).2
 have hEy:=hΓ e E hE
 obtain ⟨i,h1,h2,h3,h4⟩:=hEy.info
 have hu:=(hΓ t T hT).zbz hd
 have hun:=(hΓ tn TN hTN).ze0 hdn'
 generalize hx':a.eval x=xv at hx
 generalize hy':a.eval y=yv at hy
 cases hx;cases hy
 obtain ⟨k,rfl⟩:=Int.eq_ofNat_of_zero_le (show 0≤n by omega)
 rw [Int.toNat_natCast] at hq3 hq4 ⊢
 have hk:0<k:=by omega
 have hzc:=zbD hEy
 have hzs:E.zero.toArray.size=E.size:=by simp [hEy.len]
 have hfit:Builtin.nextslicecap (0+k) 0 * i.bytes≤281474976710656:=growslice_fits (by omega) (by rw [h3,Nat.zero_add];exact hq3)
 have hold:(Builtin.firstCells i.size 0 (.slice none 0 0)).run P w.drew = .ok ([]:List Value).toArray w.drew:=run_firstCells_none (P:=P) (w:=w.drew) i.size 0 0 0
 have hrun:=Lib.run_append_grow_zeros (P:=P) w t tn o.type e i E.zeroV .i64 .i64 hu hun h1 h4 none 0 0 [] hold k hk (by rw [h2];omega) (by omega) (by omega) (by rw [h3];omega) hfit
 rw [hzc,Nat.zero_add] at hrun
 generalize hG:grownCap w k 0 e=G at hrun
 have hGn:k≤G:=by rw [← hG];exact grownCap_ge w _ _ _
 have hGm:G≤maxLen:=by rw [← hG];exact grownCap_le_maxLen w k 0 e (by unfold maxLen;omega)
 have hcells:([]:List Value).toArray++Builtin.zeroCells E.zero.toArray k++Builtin.zeroCells E.zero.toArray (G - k)=madeCells E.zero.toArray (G * E.size):=by
  rw [show ([]:List Value).toArray++Builtin.zeroCells E.zero.toArray k=Builtin.zeroCells E.zero.toArray k by simp,zkt _ _ _ (by rw [hzs];omega),hzs]
  congr 2;omega
 rw [hcells] at hrun
 have hmade:RelL h ρ (repL (zeros E.zero) G) (madeCells E.zero.toArray (G * E.size)).toList:=RelL.made hEy h ρ G
 have I':=I.drew.zeZ hdn (.cells (madeCells E.zero.toArray (G * E.size)) e) (.sl k E.size (.slice (some ⟨w.heap.size,0,none⟩) k G)) (.buf e E.size k (fun _=>zeros E.zero)) (fun b hb=>(Option.some.inj hb).symm)
  (zbN.zmT (w:=w.drew) hGn hGm (size_madeCells _ _) rfl (by
   have:k * E.size≤G * E.size:=Nat.mul_le_mul_right _ hGn
   rw [List.length_take,Array.length_toList,size_madeCells];omega) (fun _ _=>by rw [zby,hEy.len]) (fun x hx=>by
   have hx':=List.mem_of_mem_take hx
   simp only [Array.mem_toList_iff,madeCells,Array.mem_map,Array.mem_range] at hx'
   obtain ⟨k,hk,rfl⟩:=hx'
   have hpos:0<E.size:=by omega
   have hlt:k % E.zero.length<E.zero.length:=by rw [hEy.len];exact Nat.mod_lt _ hpos
   have:E.zero.toArray[k % E.zero.toArray.size]! = E.zero[k % E.zero.length]:=by simp [hlt]
   rw [this]
   exact (zc9 (Rel.ze3 (fun _=>none) ρ0 _) (hEy.one _ (List.getElem_mem hlt))).1)
   (fun i j c x hi hj hx=>by
    rw [List.getElem?_take] at hx
    split at hx
    rotate_left
    · cases hx
    rename_i hlt
    have hj':j<E.size:=by rw [← hEy.len,← zby];exact (List.getElem?_eq_some_iff.1 hj).1
    have hrep:(repL (zeros E.zero) G)[i * E.size+j]? = some c:=by
     have hb:i * E.size+j<G * E.size:=Nat.lt_of_lt_of_le hlt (Nat.mul_le_mul_right _ hGn)
     rw [zhv (by rw [zby,hEy.len];exact hb),zby,hEy.len]
     rw [Nat.mul_comm,Nat.mul_add_mod,Nat.mod_eq_of_lt hj'];exact hj
    have hr0:=(RelL.made hEy h ρ0 G)
    exact hr0.2 _ c x hrep hx))
 refine ⟨.slice (some ⟨w.heap.size,0,none⟩) k G,_,_,_,.inl (execOp_builtin ho (v:=.slice (some ⟨w.heap.size,0,none⟩) k G) ?_),I',.buf _ _ _ _ _ _ _ (zaf _ _ _) (Nat.le_refl _) rfl (fun _=>rfl)⟩
 simp only [builtin,List.map_toArray,List.map_cons,List.map_nil,hx',hy',Sem.run_bind,hrun,Result.andThen_ok,Sem.run_pure]
theorem zi9 {t:TypeId} {T:TyD} (hT:TyOk P t T) {x:Value} {n:Int} (ty:TypeId) (ts:Array TypeId) (hts:ts[0]? = some t)
 (hx:(∃ e,T.d = .slice e∧∃ ad cap,∃ k:Nat,n=k∧x = .slice ad k cap)∨(∃ k e,T.d = .map k e∧((x = .map none∧n=0)∨∃ r es cl,x = .map (some r)∧w.heap[r]? = some (.map es cl)∧n=(es.size:Int)))) :
 (Builtin.len_ ts ty #[x]).run P w = .ok (.int .i64 n) w:=by
 rcases hx with ⟨e,hd,ad,cap,k,rfl,rfl⟩|⟨k,e,hd,⟨rfl,rfl⟩|⟨r,es,cl,rfl,hb,rfl⟩⟩
 · have hu:=hT.zbz hd
   simp [Builtin.len_,hts,run_underlying hu,goInt]
 · have hu:=hT.zhY hd
   simp [Builtin.len_,hts,run_underlying hu,goInt]
 · have hu:=hT.zhY hd
   simp only [Builtin.len_,hts,List.getElem?_toArray,List.getElem?_cons_zero,Sem.run_bind,run_underlying hu,Result.andThen_ok,MapKept.run_getObj_map hb,Sem.run_pure,goInt]
theorem zoM {xs:List AV}:∀ {vs:List Value} {p m:Int},maxes p xs=some m→RelL h ρ xs vs→(vs.foldlM Builtin.max2 (.int .i64 p)).run P w = .ok (.int .i64 m) w:=by
 induction xs with
 | nil=>
  intro vs p m hm H
  have:vs=[]:=List.eq_nil_of_length_eq_zero (by simpa using H.1)
  subst this
  simp [maxes] at hm;subst hm;rfl
 | cons x xs ih=>
  intro vs p m hm H
  obtain ⟨v,r,rfl,hv,hr⟩:=H.zdP
  cases x <;> (try simp only [maxes] at hm) <;> (try (cases hm;done))
  rename_i kk b
  cases kk <;> (try simp only [maxes] at hm) <;> (try (cases hm;done))
  cases hv
  have h2:(Builtin.max2 (.int .i64 p) (.int .i64 b)).run P w = .ok (.int .i64 (max p b)) w:=by
   simp only [Builtin.max2,Sem.run_pure]
   congr 2
   split <;> omega
  rw [List.foldlM_cons,Sem.run_bind,h2,Result.andThen_ok]
  exact ih hm hr
theorem zoI {xs:List AV}:∀ {vs:List Value} {p m:Int},mines p xs=some m→RelL h ρ xs vs→(vs.foldlM Builtin.min2 (.int .i64 p)).run P w = .ok (.int .i64 m) w:=by
 induction xs with
 | nil=>
  intro vs p m hm H
  have:vs=[]:=List.eq_nil_of_length_eq_zero (by simpa using H.1)
  subst this
  simp [mines] at hm;subst hm;rfl
 | cons x xs ih=>
  intro vs p m hm H
  obtain ⟨v,r,rfl,hv,hr⟩:=H.zdP
  cases x <;> (try simp only [mines] at hm) <;> (try (cases hm;done))
  rename_i kk b
  cases kk <;> (try simp only [mines] at hm) <;> (try (cases hm;done))
  cases hv
  have h2:(Builtin.min2 (.int .i64 p) (.int .i64 b)).run P w = .ok (.int .i64 (min p b)) w:=by
   simp only [Builtin.min2,Sem.run_pure]
   congr 2
   split <;> omega
  rw [List.foldlM_cons,Sem.run_bind,h2,Result.andThen_ok]
  exact ih hm hr
theorem zee {val:Operand→AV}:∀ (xs:List Operand),(∀ x∈xs,Rel h ρ (val x) (a.eval x))→RelL h ρ (zfC val xs) (xs.map a.eval)
 | [],_=>RelL.nil _ _
 | x::xs,hx=>RelL.cons (hx x (by simp)) (zee xs (fun y hy=>hx y (by simp [hy])))
theorem zfi {val:Operand→AV}:∀ (xs:List Operand),zfC val xs=xs.map val
 | []=>rfl
 | x::xs=>by simp [zfC,zfi xs]
theorem zed {o:Oper} {c:Callee} {args:Array Operand} {ts:Array TypeId} (ho:o.op = .call { callee:=c,args:=args,argTypes:=ts }) {x:Operand} (hx:x∈args.toList):x∈o.op.operands:=by
 rw [ho]
 simp only [Op.operands,Call.operands]
 exact Array.mem_append.2 (.inr (by simpa using hx))
theorem ev_len (hΓ:zbC P Γ) (I:InvH N C h ρ F M g a w) {y:Operand} {t:TypeId} {ts:List TypeId} {args:Array Operand} {tsa:Array TypeId} (ho:o.op = .call { callee:=.builtin .len,args:=args,argTypes:=tsa }) (hts:tsa.toList=t::ts) (hargs:args.toList=[y])
 {x:AV} (hx:Rel h ρ x (a.eval y)) {r:R} (hr:zeJ Γ mg o .len (t::ts) [x]=some r) (hm:∀ id,id∈r.rd→M id=mg id) (hc:∀ q,r.cs=some q→q):Good P N C h ρ F M g a o w r:=by
 have ha:args.map a.eval = #[a.eval y]:=by
  apply Array.ext';simp [hargs]
 have ht0:tsa[0]? = some t:=by rw [← Array.getElem?_toList,hts];rfl
 simp only [zeJ] at hr
 cases hT:tyOf Γ t with
 | none=>simp [hT] at hr
 | some T=>
 simp only [hT] at hr
 have hTy:=hΓ t T hT
 have fin:∀ {n:Int},(Builtin.len_ tsa o.type #[a.eval y]).run P w = .ok (.int .i64 n) w→∀ {rd:List Nat} {q:Option Prop},Good P N C h ρ F M g a o w ⟨.int .i64 n,rd,[],q,none⟩:=by
  intro n hrun rd q
  refine Good.same I (.inl (execOp_builtin ho ?_)) rfl (.int _ _ _)
  simp only [builtin,ha,Sem.run_bind,hrun,Result.andThen_ok,Sem.run_pure]
 cases hd:T.d <;> simp only [hd] at hr <;> (try (cases hr;done))
 case slice e=>
  have sl:∀ {ad:Option Addr} {k cap:Nat},a.eval y = .slice ad k cap→(Builtin.len_ tsa o.type #[a.eval y]).run P w = .ok (.int .i64 (k:Int)) w:=fun he=>by
   rw [he];exact zi9 hTy _ _ ht0 (.inl ⟨e,hd,_,_,_,rfl,rfl⟩)
  cases x <;> simp only [zpj] at hr <;> (try (cases hr;done))
  case nilS=>
   cases hr
   have:a.eval y = .slice none 0 0:=by generalize a.eval y=v at hx;cases hx;rfl
   exact fin (by simpa using sl this)
  case ro sz n el=>
   cases hr
   obtain ⟨ad,cap,h1,_⟩:=zhu hx
   exact fin (sl h1)
  case pin hp0 q=>
   cases q <;> simp only [zpj] at hr <;> (try (cases hr;done))
   rename_i sz n el
   cases hr
   have h1:∃ ad cap,a.eval y = .slice ad n cap:=by
    generalize a.eval y=v at hx
    cases hx with
    | pin _ _ _ _ hl hv=>
     obtain ⟨ad,cap,h1,_⟩:=zhu hv
     exact ⟨ad,cap,h1⟩
   obtain ⟨ad,cap,h1⟩:=h1
   exact fin (sl h1)
  case buf id n=>
   cases hg:mg id with
   | none=>simp [hg] at hr
   | some bl=>
    cases bl <;> simp only [hg] at hr <;> (try (cases hr;done))
    case buf ty sz n' el=>
     cases hr
     obtain rfl:=hc _ rfl
     obtain ⟨v0,us,e1,e2,_⟩:=I.blk id _ ((hm id (by simp)).trans hg)
     have he:a.eval y=v0:=by
      generalize a.eval y=v at hx
      cases hx with
      | buf _ _ _ _ _ _ _ hb hle k1 he=>rw [e1] at hb;cases hb;exact he rfl
     rcases e2.2 with ⟨rfl,h0⟩|⟨b,cap,cur,rfl,_⟩
     · subst h0;exact fin (sl he)
     · exact fin (sl he)
    case bufk ty sz n' c el=>
     cases hr
     obtain rfl:=hc _ rfl
     obtain ⟨v0,us,e1,e2,_⟩:=I.blk id _ ((hm id (by simp)).trans hg)
     have he:a.eval y=v0:=by
      generalize a.eval y=v at hx
      cases hx with
      | buf _ _ _ _ _ _ _ hb hle k1 he=>rw [e1] at hb;cases hb;exact he rfl
     rcases e2.2 with ⟨rfl,h0⟩|⟨b,cap,cur,rfl,_⟩
     · subst h0;exact fin (sl he)
     · exact fin (sl he)
  case sb id n a0 b0=>
   cases hg:mg id with
   | none=>simp [hg] at hr
   | some bl=>
    cases bl <;> simp only [hg] at hr <;> (try (cases hr;done))
    rename_i ty sz n' el
    cases hr
    obtain rfl:=hc _ rfl
    obtain ⟨v0,us,e1,e2,_⟩:=I.blk id _ ((hm id (by simp)).trans hg)
    obtain ⟨ad,cap,he⟩:∃ ad cap,a.eval y = .slice ad (b0 - a0) cap:=by
     generalize a.eval y=v at hx
     cases hx with
     | sb _ _ _ _ _ _ _ _ _ hb hle k1 he=>rw [e1] at hb;cases hb;obtain ⟨g0,cap,_,h2⟩:=he rfl;exact ⟨_,_,h2⟩
    exact fin (sl he)
  case gb id n=>
   cases hg:mg id with
   | none=>simp [hg] at hr
   | some bl=>
    cases bl <;> simp only [hg] at hr <;> (try (cases hr;done))
    rename_i tS ty sz n' m el
    cases hr
    obtain rfl:=hc _ rfl
    obtain ⟨v0,rows,e1,e0,e2,_⟩:=I.blk id _ ((hm id (by simp)).trans hg)
    have he:a.eval y=v0:=by
     generalize a.eval y=v at hx
     cases hx with
     | gb _ _ _ _ _ hb hgg k1=>rw [e1] at hb;cases hb;exact (hgg _ _ _ rfl).2 e0.symm
    rcases e2.2 with ⟨rfl,h0⟩|⟨b,cap,cur,rfl,_⟩
    · subst h0;exact fin (sl he)
    · exact fin (sl he)
  case gr' id i k=>
   cases hg:mg id with
   | none=>simp [hg] at hr
   | some bl=>
    cases bl <;> simp only [hg] at hr <;> (try (cases hr;done))
    rename_i tS ty sz n m el
    cases hr
    obtain ⟨rfl,hin⟩:=hc _ rfl
    obtain ⟨v0,rows,e1,e0,e2,e4,_⟩:=I.blk id _ ((hm id (by simp)).trans hg)
    obtain ⟨m',v',g1,g2,g3⟩:∃ m' v',rows[i]? = some (m',v')∧m i≤m'∧(m i=m'→a.eval y=v'):=by
     generalize a.eval y=v at hx
     cases hx with
     | gr' _ _ _ _ _ _ hb hgg k1=>rw [e1] at hb;cases hb;exact hgg _ _ _ rfl
    obtain ⟨q0,_,xs,q2,_⟩:=e4 i _ g1
    simp only at q0 q2
    subst q0
    have he:=g3 rfl
    rcases q2.2 with ⟨rfl,h0⟩|⟨b,cap,cur,rfl,_⟩
    · have:=sl he;rw [h0] at *;exact fin this
    · exact fin (sl he)
 case map k e=>
  cases x <;> simp only [zpj] at hr <;> (try (cases hr;done))
  case nilMap=>
   cases hr
   have:a.eval y = .map none:=by generalize a.eval y=v at hx;cases hx;rfl
   exact fin (by rw [this];exact zi9 hTy _ _ ht0 (.inr ⟨k,e,hd,.inl ⟨rfl,rfl⟩⟩))
  case rom z dom el n=>
   cases hr
   generalize hy:a.eval y=v at hx fin
   cases hx with
   | romN=>exact fin (zi9 hTy _ _ ht0 (.inr ⟨k,e,hd,.inl ⟨rfl,rfl⟩⟩))
   | rom _ _ _ _ _ b es clock ks e2 _ _ e5=>
    exact fin (zi9 hTy _ _ ht0 (.inr ⟨k,e,hd,.inr ⟨b,_,_,rfl,I.hp _ _ e2,by simp [e5]⟩⟩))
  case mp id=>
   cases hg:mg id with
   | none=>simp [hg] at hr
   | some bl=>
    cases bl <;> simp only [hg] at hr <;> (try (cases hr;done))
    rename_i z dom el n
    cases hr
    obtain ⟨b,es,clock,ks,e1,e2,_,_,e5,_⟩:=I.blk id _ ((hm id (by simp)).trans hg)
    generalize hy:a.eval y=v at hx fin
    cases hx with
    | mp _ _ li b' hb hmb=>
     rw [e1] at hb;cases hb;cases hmb
     exact fin (zi9 hTy _ _ ht0 (.inr ⟨k,e,hd,.inr ⟨b,_,_,rfl,e2,by simp [e5]⟩⟩))
theorem zl3 (I:InvH N C h ρ F M g a w) {b:Builtin} {args:Array Operand} {tsa:Array TypeId} (ho:o.op = .call { callee:=.builtin b,args:=args,argTypes:=tsa }) {p m:Int} {xs:List AV} (hx:RelL h ρ (.int .i64 p::xs) (args.toList.map a.eval))
 (hb:(b = .max∧maxes p xs=some m)∨(b = .min∧mines p xs=some m)):Good P N C h ρ F M g a o w (R.val (.int .i64 m)):=by
 obtain ⟨v,r,hvr,hv,hr⟩:=hx.zdP
 cases hv
 have ha:(args.map a.eval).toList = .int .i64 p::r:=by simpa using hvr
 refine Good.same I (.inl (execOp_builtin ho ?_)) rfl (.int _ _ _)
 rcases hb with ⟨rfl,hm⟩|⟨rfl,hm⟩
 · simp only [builtin,Builtin.max_,ha,Sem.run_bind,zoM (P:=P) (w:=w) hm hr,Result.andThen_ok,Sem.run_pure]
 · simp only [builtin,Builtin.min_,ha,Sem.run_bind,zoI (P:=P) (w:=w) hm hr,Result.andThen_ok,Sem.run_pure]
end
end Go.Av
end
/- The evaluator is right: slices of slices that are all owned. -/
section
set_option linter.all false
namespace Go.Av
section
variable {P:Program} {N:Nat} {C:Ctx} {h:Hp} {ρ:Rho} {F:Fr} {M:Mm} {g:Nat} {a:Act} {w:World} {Γ:Tys} {mg:Mm} {o:Oper}
theorem zfy {ty sz n b cap:Nat} {xs:List Value} (H:w.ownsRow 0 ty sz (.slice (some ⟨b,0,none⟩) n cap) n xs) (off:Nat) (ys:List Value) (hfit:off+ys.length≤n * sz) :
 ∃ cur:Array Value,w.heap[b]? = some (.cells cur ty (0,0))∧off+ys.length≤cur.size ∧
  (w.setRow b (cur.toList.take off++ys++cur.toList.drop (off+ys.length)).toArray).ownsRow 0 ty sz (.slice (some ⟨b,0,none⟩) n cap) n (xs.take off++ys++xs.drop (off+ys.length)):=by
 obtain ⟨q1,q2⟩:=H
 rcases q2 with ⟨q2,_⟩|⟨b',cap',cur,q2,_,q3,q4,q5,q6,q7⟩
 · cases q2
 cases q2
 have hcapsz:n * sz≤cap * sz:=Nat.mul_le_mul_right _ q4
 have hfit2:off+ys.length≤cur.toList.length:=by simp [q6];omega
 refine ⟨cur,q3,by simpa using hfit2,?_,.inr ⟨b,cap,_,rfl,Nat.zero_le _,setRow_heap w b _ _ ty _ q3,q4,q5,?_,?_⟩⟩
 · rw [zi7 _ _ _ (by omega)];exact q1
 · have:=zi7 cur.toList ys off hfit2
   simp only [List.size_toArray]
   rw [this];simpa using q6
 · apply List.ext_getElem?
   intro k
   rw [List.getElem?_take,zf3 _ _ _ hfit2,zf3 xs ys off (by omega)]
   by_cases hk:k<n * sz
   · have:xs[k]? = cur.toList[k]? := by rw [← q7,List.getElem?_take,if_pos hk]
     rw [if_pos hk,this]
   · have:xs[k]? = none:=by simp;omega
     rw [if_neg hk,if_neg (by omega),this]
theorem zhw {ty sz n:Nat} {v:Value} {xs:List Value} (H:w.ownsRow 0 ty sz v n xs):∃ ad cap,v = .slice ad n cap∧n≤cap∧(0<n→∃ g,ad=some ⟨g,0,none⟩):=by
 rcases H.2 with ⟨rfl,rfl⟩|⟨g,cap,cur,rfl,_,_,h,_⟩
 · exact ⟨none,0,rfl,Nat.le_refl _,fun h=>absurd h (Nat.lt_irrefl _)⟩
 · exact ⟨_,cap,rfl,h,fun _=>⟨g,rfl⟩⟩
theorem zpc (hΓ:zbC P Γ) (I:InvH N C h ρ F M g a w) {t:TypeId} {x:Operand} {lo hi mx:Option Operand} (ho:o.op = .slice t x lo hi mx) {val:Operand→AV} (hv:∀ y,y∈o.op.operands→Rel h ρ (val y) (a.eval y)) {id n:Nat} (hvx:val x = .buf id n) {r:R}
 (hr:zkZ Γ mg t id n (optV val lo) (optV val hi) (optV val mx)=some r) (hm:∀ id,id∈r.rd→M id=mg id) (hc:∀ q,r.cs=some q→q):Good P N C h ρ F M g a o w r:=by
 unfold zkZ at hr
 cases hT:tyOf Γ t with
 | none=>simp [hT] at hr
 | some T=>
 simp only [hT] at hr
 cases hd:T.d <;> simp only [hd] at hr <;> (try (cases hr;done))
 rename_i e
 cases hE:tyOf Γ e with
 | none=>simp [hE] at hr
 | some E=>
 simp only [hE] at hr
 have hu:=(hΓ t T hT).zbz hd
 have hEy:=hΓ e E hE
 have hx:Rel h ρ (.buf id n) (a.eval x):=hvx▸hv x (by rw [ho];cases lo <;> cases hi <;> cases mx <;> simp [Op.operands])
 have hlo:∀ y,lo=some y→Rel h ρ (val y) (a.eval y):=fun y hy=>hv y (by rw [ho,hy];cases hi <;> cases mx <;> simp [Op.operands])
 have hhi:∀ y,hi=some y→Rel h ρ (val y) (a.eval y):=fun y hy=>hv y (by rw [ho,hy];cases lo <;> cases mx <;> simp [Op.operands])
 have hmx:∀ y,mx=some y→Rel h ρ (val y) (a.eval y):=fun y hy=>hv y (by rw [ho,hy];cases lo <;> cases hi <;> simp [Op.operands])
 have intv:∀ {lo:Option Operand} {b:Int},(∀ y,lo=some y→Rel h ρ (val y) (a.eval y))→optV val lo=some (.int .i64 b)→lo.map a.eval=some (.int .i64 b):=by
  intro lo b hl ho'
  cases lo with
  | none=>simp [optV] at ho'
  | some y=>
   simp only [optV,Option.some.injEq] at ho'
   have:=hl y rfl
   rw [ho'] at this
   generalize hz:a.eval y=z at this
   cases this
   simp [hz]
 have nonev:∀ {lo:Option Operand},optV val lo=none→lo.map a.eval=none:=by
  intro lo ho'
  cases lo with
  | none=>rfl
  | some y=>simp [optV] at ho'
 -- a part,once the bounds are known
 have fin:∀ (ad:Option Addr) (n' cap l hh mm:Nat) (q:Option Prop) (rd:List Nat) (v:AV),a.eval x = .slice ad n' cap→(Instr.sliceBounds true n' cap (lo.map a.eval) (hi.map a.eval) (mx.map a.eval)).run P w = .ok (l,hh,mm) w →
  Rel h ρ v (.slice (if mm=l then ad else ad.map (·.add (l * E.size))) (hh - l) (mm - l))→Good P N C h ρ F M g a o w ⟨v,rd,[],q,none⟩:=by
  intro ad n' cap l hh mm q rd v hax hrun hrel
  refine Good.same I (.inl ?_) rfl hrel
  unfold execOp
  simp only [ho,hax,Instr.sliceAt,Instr.slice,Sem.run_bind,run_underlying hu,Result.andThen_ok,hrun,hEy.zdx w,Sem.run_pure]
 have part:∀ (gg n' cap l hh:Nat) (sz:Nat) (v0:Value),sz=E.size→ρ id=some (.sl n' sz v0)→v0 = .slice (some ⟨gg,0,none⟩) n' cap→Rel h ρ (.sb id n' l hh) (.slice (if cap=l then some ⟨gg,0,none⟩ else (some (⟨gg,0,none⟩:Addr)).map (·.add (l * E.size))) (hh - l) (cap - l)):=by
  intro gg n' cap l hh sz v0 hsz e1 hv0
  refine .sb _ _ _ _ _ _ _ _ _ e1 (Nat.le_refl _) (by split <;> rfl) (fun _=>⟨gg,cap,hv0,?_⟩)
  subst hsz
  split
  · rfl
  · simp [Addr.add_lit]
 cases hg:mg id with
 | none=>simp [hg] at hr
 | some bl=>
 cases bl <;> simp only [hg] at hr <;> (try (cases hr;done))
 case buf ty sz n' el=>
  cases hb:Nat.beq sz E.size with
  | false=>simp [hb] at hr
  | true=>
  simp only [hb] at hr
  have hsz:=Nat.eq_of_beq_eq_true hb
  have key:M id=some (.buf ty sz n' el)→n=n'→∃ ad cap,a.eval x = .slice ad n' cap∧n'≤cap∧ρ id=some (.sl n' sz (.slice ad n' cap))∧(0<n'→∃ gg,ad=some ⟨gg,0,none⟩):=by
   rintro hM rfl
   obtain ⟨v0,us,e1,e2,_⟩:=I.blk id _ hM
   obtain ⟨ad,cap,rfl,h2,h3⟩:=zhw e2
   refine ⟨ad,cap,?_,h2,e1,h3⟩
   generalize a.eval x=z at hx
   cases hx with
   | buf _ _ _ _ _ _ _ hb' hle k1 he=>rw [e1] at hb';cases hb';exact he rfl
  split at hr
  · rename_i la lb lc h1 h2 h3
    cases hr
    obtain ⟨q0,q1,q2,q3,q4⟩:=hc _ rfl
    obtain ⟨ad,cap,k1,k2,k3,k4⟩:=key ((hm id (by simp)).trans hg) q0
    refine fin ad n' cap la.toNat lb.toNat lc.toNat _ _ _ k1 ?_ (.any _ _)
    rw [intv hlo h1,intv hhi h2,intv hmx h3]
    simp only [Instr.sliceBounds,Sem.run_bind,Sem.run_pure,Result.andThen_ok,run_sliceBound (P:=P) (i:=lc) (y:=cap) ⟨by omega,by omega⟩,run_sliceBound (P:=P) (i:=lb) (y:=lc.toNat) ⟨by omega,by omega⟩,run_sliceBound (P:=P) (i:=la) (y:=lb.toNat) ⟨q1,by omega⟩]
  · rename_i la lb h1 h2 h3
    cases hr
    obtain ⟨q0,q00,q1,q2,q3⟩:=hc _ rfl
    obtain ⟨ad,cap,k1,k2,k3,k4⟩:=key ((hm id (by simp)).trans hg) q0
    obtain ⟨gg,rfl⟩:=k4 q00
    refine fin _ n' cap la.toNat lb.toNat cap _ _ _ k1 ?_ (part gg n' cap _ _ sz _ hsz k3 rfl)
    rw [intv hlo h1,intv hhi h2,nonev h3]
    simp only [Instr.sliceBounds,Sem.run_bind,Sem.run_pure,Result.andThen_ok,run_sliceBound (P:=P) (i:=lb) (y:=cap) ⟨by omega,by omega⟩,run_sliceBound (P:=P) (i:=la) (y:=lb.toNat) ⟨q1,by omega⟩]
  · rename_i lb h1 h2 h3
    cases hr
    obtain ⟨q0,q00,q1,q2⟩:=hc _ rfl
    obtain ⟨ad,cap,k1,k2,k3,k4⟩:=key ((hm id (by simp)).trans hg) q0
    obtain ⟨gg,rfl⟩:=k4 q00
    refine fin _ n' cap 0 lb.toNat cap _ _ _ k1 ?_ (part gg n' cap _ _ sz _ hsz k3 rfl)
    rw [nonev h1,intv hhi h2,nonev h3]
    simp only [Instr.sliceBounds,Sem.run_bind,Sem.run_pure,Result.andThen_ok,run_sliceBound (P:=P) (i:=lb) (y:=cap) ⟨by omega,by omega⟩]
  · rename_i la h1 h2 h3
    cases hr
    obtain ⟨q0,q00,q1,q2⟩:=hc _ rfl
    obtain ⟨ad,cap,k1,k2,k3,k4⟩:=key ((hm id (by simp)).trans hg) q0
    obtain ⟨gg,rfl⟩:=k4 q00
    refine fin _ n' cap la.toNat n' cap _ _ _ k1 ?_ (part gg n' cap _ _ sz _ hsz k3 rfl)
    rw [intv hlo h1,nonev h2,nonev h3]
    simp only [Instr.sliceBounds,Sem.run_bind,Sem.run_pure,Result.andThen_ok,run_sliceBound (P:=P) (i:=la) (y:=n') ⟨by omega,by omega⟩]
  · cases hr
 case bufk ty sz n' c el=>
  cases hb:Nat.beq sz E.size with
  | false=>simp [hb] at hr
  | true=>
  simp only [hb] at hr
  have hsz:=Nat.eq_of_beq_eq_true hb
  split at hr
  · rename_i la lb h1 h2 h3
    cases hr
    obtain ⟨rfl,q1,q2,q3⟩:=hc _ rfl
    obtain ⟨v0,us,e1,e2,⟨gg,cap,rfl,hcap⟩,_⟩:=I.blk id _ ((hm id (by simp)).trans hg)
    have hax:a.eval x = .slice (some ⟨gg,0,none⟩) n cap:=by
     generalize a.eval x=z at hx
     cases hx with
     | buf _ _ _ _ _ _ _ hb' hle k1 he=>rw [e1] at hb';cases hb';exact he rfl
    refine fin _ n cap la.toNat lb.toNat cap _ _ _ hax ?_ (part gg n cap _ _ sz _ hsz e1 rfl)
    rw [intv hlo h1,intv hhi h2,nonev h3]
    simp only [Instr.sliceBounds,Sem.run_bind,Sem.run_pure,Result.andThen_ok,run_sliceBound (P:=P) (i:=lb) (y:=cap) ⟨by omega,by omega⟩,run_sliceBound (P:=P) (i:=la) (y:=lb.toNat) ⟨q1,by omega⟩]
  · cases hr
theorem zg5 (w:World) (t tx ty e:TypeId) (i:TypeInfo) (ht:P.underlying t=some (.slice e)) (hi:P.info? e=some i) (b off sLen sCap:Nat) (x:Value) (n:Nat) (news:List Value) (hs:Src P i.size tx x n news w)
 (hroom:sLen+n≤sCap) {cur:Array Value} {tyr:TypeId} (hg:w.heap[b]? = some (.cells cur tyr (0,0))) (hfit:off+sLen * i.size+news.length≤cur.size) :
 (Builtin.append_ #[t,tx] ty #[.slice (some ⟨b,off,none⟩) sLen sCap,x]).run P w = .ok (.slice (some ⟨b,off,none⟩) (sLen+n) sCap) (w.setRow b (cur.toList.take (off+sLen * i.size)++news++cur.toList.drop (off+sLen * i.size+news.length)).toArray):=by
 have hst:=run_storeCells_at P b (off+sLen * i.size) tyr news 0 cur w hg (by simpa using hfit) hs.one
 simp only [Nat.add_zero] at hst
 rcases hs.kind with ⟨e',hk⟩|hk <;> simp [Builtin.append_,run_underlying ht,run_underlying hk,sizeOf,typeInfo,hi,hs.len,hroom,hs.cells,Addr.add_lit,hst]
theorem zjN {ty sz n m g cap:Nat} {zs:List Value} (H:w.ownsRow 0 ty sz (.slice (some ⟨g,0,none⟩) n cap) n zs) (hm:m≤n):w.ownsRow 0 ty sz (.slice (some ⟨g,0,none⟩) m cap) m (zs.take (m * sz)):=by
 obtain ⟨q1,q2⟩:=H
 have hle:m * sz≤n * sz:=Nat.mul_le_mul_right _ hm
 rcases q2 with ⟨q2,_⟩|⟨g',cap',cur,q2,q0,q3,q4,q5,q6,q7⟩
 · cases q2
 cases q2
 refine ⟨by rw [List.length_take,q1];omega,.inr ⟨g,cap,cur,rfl,q0,q3,by omega,q5,q6,?_⟩⟩
 rw [← q7,List.take_take]
 congr 1
 omega
theorem zn7 (hΓ:zbC P Γ) (I:InvH N C h ρ F M g a w) {t:TypeId} {x y:Operand} (ho:o.op = .call { callee:=.builtin .append,args:=#[x,y],argTypes:=#[t,t] }) {id n b id2 n2 j k:Nat} (hx:Rel h ρ (.sb id n 0 b) (a.eval x)) (hy:Rel h ρ (.sb id2 n2 j k) (a.eval y)) {r:R}
 (hr:zjA Γ mg o t id n b id2 n2 j k=some r) (hm:∀ id,id∈r.rd→M id=mg id) (hc:∀ q,r.cs=some q→q):Good P N C h ρ F M g a o w r:=by
 unfold zjA at hr
 cases hT:tyOf Γ t with
 | none=>simp [hT] at hr
 | some T=>
 simp only [hT] at hr
 cases hd:T.d <;> simp only [hd] at hr <;> (try (cases hr;done))
 rename_i e
 cases hE:tyOf Γ e with
 | none=>simp [hE] at hr
 | some E=>
 simp only [hE] at hr
 have hu:=(hΓ t T hT).zbz hd
 have hEy:=hΓ e E hE
 cases hg:mg id with
 | none=>simp [hg] at hr
 | some bl=>
 cases bl <;> simp only [hg] at hr <;> (try (cases hr;done))
 rename_i ty sz n' e1
 split at hr
 rotate_left
 · cases hr
 rename_i hbb
 simp only [Bool.and_eq_true] at hbb
 obtain ⟨⟨hb1,hb2⟩,hb3⟩:=hbb
 have hty:=Nat.eq_of_beq_eq_true hb1
 have hsz:=Nat.eq_of_beq_eq_true hb2
 have hid:=Nat.eq_of_beq_eq_true hb3
 subst hty;subst hid
 cases hf:fresh mg o with
 | none=>simp [hf] at hr
 | some d=>
 simp only [hf] at hr
 cases hr
 obtain ⟨rfl,hn2,hbj,hjk,hkn⟩:=hc _ rfl
 subst n2
 obtain ⟨hdst,hmd⟩:=zcM hf
 have hMid:M id=some (.buf ty sz n e1):=(hm id (by simp)).trans hg
 have hMd:M d=none:=(hm d (by simp)).trans hmd
 have hdid:d≠id:=by rintro rfl;rw [hMd] at hMid;cases hMid
 obtain ⟨v0,us,k1,k2,k3,k5,k4⟩:=I.blk id _ hMid
 obtain ⟨i,i1,i2,i3,i4⟩:=hEy.info
 generalize hxe:a.eval x=xv at hx
 generalize hye:a.eval y=yv at hy
 cases hx with
 | sb _ _ _ _ _ n1 sz1 xv v1 hb hle h1 he=>
 rw [k1] at hb;cases hb
 obtain ⟨gg,cap,rfl,rfl⟩:=he rfl
 cases hy with
 | sb _ _ _ _ _ n1 sz1 yv v1 hb' hle' h1' he'=>
 rw [k1] at hb';cases hb'
 obtain ⟨gg',cap',q1,rfl⟩:=he' rfl
 cases q1
 have hsl:us.length=n * sz:=k2.1
 have hcapn:n≤cap:=by
  rcases k2.2 with ⟨q,_⟩|⟨_,_,_,q,_,_,q4,_⟩
  · cases q
  · cases q;exact q4
 have mulle:∀ p q:Nat,p≤q→p * sz≤q * sz:=fun p q h=>Nat.mul_le_mul_right _ h
 obtain ⟨news,hnews⟩:∃ news,(us.drop (j * sz)).take ((k - j) * sz)=news:=⟨_,rfl⟩
 have hnl:news.length=(k - j) * sz:=by
  rw [← hnews,List.length_take,List.length_drop,hsl]
  have:=mulle k n hkn
  have h2:(k - j) * sz+j * sz=k * sz:=by rw [← Nat.add_mul];congr 1;omega
  omega
 have hnget:∀ q,q<(k - j) * sz→news[q]? = us[j * sz+q]? := fun q hq=>by
  rw [← hnews,List.getElem?_take,if_pos hq,List.getElem?_drop]
 have hone:∀ u∈news,u.oneCell'=true:=fun u hu=>k5 u (by rw [← hnews] at hu;exact List.mem_of_mem_drop (List.mem_of_mem_take hu))
 have hfit:b * sz+news.length≤n * sz:=by
  rw [hnl,← Nat.add_mul];exact mulle _ _ (by omega)
 obtain ⟨cur,c1,c2,c3⟩:=zfy k2 (b * sz) news hfit
 have hisz:i.size=sz:=by rw [i2,hsz]
 have hsrc:Src P i.size t (.slice (some (if cap=j then ⟨gg,0,none⟩ else ⟨gg,j * sz,none⟩)) (k - j) (cap - j)) (k - j) news w:=by
  refine Src.ofSlice w hu _ _ _ _ (by rw [hisz];exact hnl) (fun q u hq=>?_) hone
  have hql:q<(k - j) * sz:=by rw [← hnl];exact (List.getElem?_eq_some_iff.1 hq).1
  have hne:cap≠j:=by
   rintro rfl
   have:k - cap=0:=by omega
   rw [this] at hql;simp at hql
  rw [if_neg hne,Addr.add_lit]
  have h3:j * sz+q<n * sz:=by
   have:=mulle k n hkn
   have h2:(k - j) * sz+j * sz=k * sz:=by rw [← Nat.add_mul];congr 1;omega
   omega
  rw [hnget q hql] at hq
  have:=k2.cells (g:=gg) rfl (j * sz+q) u hq
  rw [Addr.add_lit] at this
  simpa using this
 have hrun:=zg5 (P:=P) w t t o.type ty i hu i1 gg 0 b cap _ (k - j) news hsrc (by omega) c1 (by rw [hisz,Nat.zero_add];exact c2)
 rw [hisz,Nat.zero_add] at hrun
 obtain ⟨W',hW'⟩:∃ W',w.setRow gg (cur.toList.take (b * sz)++news++cur.toList.drop (b * sz+news.length)).toArray=W':=⟨_,rfl⟩
 rw [hW'] at hrun c3
 have hoth:∀ kk,kk≠gg→W'.heap[kk]? = w.heap[kk]? := fun kk hk=>by rw [← hW'];exact setRow_other w gg kk _ hk
 obtain ⟨ρ',hρ'⟩:∃ ρ',upd (upd ρ d (some (.sl (b+(k - j)) sz (.slice (some ⟨gg,0,none⟩) (b+(k - j)) cap)))) id (some (.sl (n+1) sz (.slice none 0 0)))=ρ':=⟨_,rfl⟩
 have r1:ρ' d=some (.sl (b+(k - j)) sz (.slice (some ⟨gg,0,none⟩) (b+(k - j)) cap)):=by rw [← hρ',zae _ _ hdid,zaf]
 have r2:ρ' id=some (.sl (n+1) sz (.slice none 0 0)):=by rw [← hρ',zaf]
 have r3:∀ q,¬ (q=d∨q=id)→ρ' q=ρ q:=fun q hq=>by rw [← hρ',zae _ _ (fun e=>hq (.inr e)),zae _ _ (fun e=>hq (.inl e))]
 have hρd:=I.dom d hMd
 have hpre:=zjN c3 (m:=b+(k - j)) (by omega)
 have hzs:∀ q,q<(b+(k - j)) * sz→((us.take (b * sz)++news++us.drop (b * sz+news.length)).take ((b+(k - j)) * sz))[q]? = if q<b * sz then us[q]? else us[j * sz+(q - b * sz)]? := by
  intro q hq
  rw [List.getElem?_take,if_pos hq,zf3 _ _ _ (by rw [hsl];exact hfit)]
  have hq2:(b+(k - j)) * sz=b * sz+(k - j) * sz:=Nat.add_mul _ _ _
  by_cases hqb:q<b * sz
  · rw [if_neg (by omega),if_pos hqb]
  · rw [if_pos (by rw [hnl];omega),if_neg hqb,hnget _ (by omega)]
 refine ⟨.slice (some ⟨gg,0,none⟩) (b+(k - j)) cap,W',h,ρ',.inl ?_,I.step (S:=fun q=>q=d∨q=id) (w':=W') ?_ ?_ ?_ ?_ (fun kk _ hk=>hoth kk (fun ee=>hk id _ (.inr rfl) k1 (by rw [ee];rfl))) r3 ?_ (fun _ _ h=>h) (fun _ _ h=>.inl h) ?_ ?_ ?_ ?_ ?_,.buf _ _ _ _ _ _ _ r1 (Nat.le_refl _) rfl (fun _=>rfl)⟩
 · refine zfG ho ?_
   have e0:(if cap=0 then (⟨gg,0,none⟩:Addr) else ⟨gg,0 * sz,none⟩)=⟨gg,0,none⟩:=by split <;> simp
   rw [hxe,hye,e0]
   simpa using hrun
 · rw [← hW'];rfl
 · rw [← hW'];rfl
 · rw [← hW'];rfl
 · rw [← hW'];simp
 · intro q li hq
   by_cases hq1:q=d
   · subst hq1;rw [hρd] at hq;cases hq
   · by_cases hq2:q=id
     · subst hq2
       rw [k1] at hq;cases hq
       exact ⟨_,r2,.inr (.inl ⟨_,_,_,_,_,rfl,rfl,Nat.lt_succ_self _⟩)⟩
     · exact ⟨li,by rw [r3 q (by simp [hq1,hq2])];exact hq,.inl rfl⟩
 · intro q hq
   simp only [not_or] at hq
   show updL M _ q=M q
   simp only [updL]
   rw [zae _ _ hq.2,zae _ _ hq.1]
 · rintro q (rfl|rfl) hM
   · simp only [updL] at hM;rw [zae _ _ hdid,zaf] at hM;cases hM
   · simp only [updL] at hM;rw [zaf] at hM;cases hM
 · rintro q z (rfl|rfl) hM
   · simp only [updL] at hM;rw [zae _ _ hdid,zaf] at hM;cases hM
     refine ⟨_,_,r1,hpre,⟨gg,cap,rfl,hcapn⟩,fun ii hii=>?_,fun u hu=>?_,fun ii jj c u hii hcc hu=>?_⟩
     · show (if ii<b then e1 ii else e1 (j+(ii - b))).length=sz
       split
       · exact k3 ii (by omega)
       · exact k3 _ (by omega)
     · obtain ⟨q,hq,rfl⟩:=List.getElem_of_mem hu
       have hq0:q<(b+(k - j)) * sz:=by simp at hq;omega
       have:=hzs q hq0
       rw [List.getElem?_eq_getElem hq] at this
       split at this
       · exact k5 _ (List.mem_of_getElem? this.symm)
       · exact k5 _ (List.mem_of_getElem? this.symm)
     · replace hcc:(if ii<b then e1 ii else e1 (j+(ii - b)))[jj]? = some c:=hcc
       have hjj:jj<sz:=by
        have h0:=(List.getElem?_eq_some_iff.1 hcc).1
        split at h0
        · rw [k3 ii (by omega)] at h0;exact h0
        · rw [k3 _ (by omega)] at h0;exact h0
       have hlt:ii * sz+jj<(b+(k - j)) * sz:=by
        calc ii * sz+jj<ii * sz+sz:=by omega
         _=(ii+1) * sz:=by rw [Nat.add_mul,Nat.one_mul]
         _≤_:=mulle _ _ hii
       rw [hzs _ hlt] at hu
       by_cases hib:ii<b
       · rw [if_pos hib] at hcc
         have:ii * sz+jj<b * sz:=by
          calc ii * sz+jj<ii * sz+sz:=by omega
           _=(ii+1) * sz:=by rw [Nat.add_mul,Nat.one_mul]
           _≤_:=mulle _ _ hib
         rw [if_pos this] at hu
         exact k4 ii jj c u (by omega) hcc hu
       · rw [if_neg hib] at hcc
         have hbi:b * sz≤ii * sz:=mulle _ _ (by omega)
         rw [if_neg (by omega)] at hu
         have hidx:j * sz+(ii * sz+jj - b * sz)=(j+(ii - b)) * sz+jj:=by
          have h2:(ii - b) * sz+b * sz=ii * sz:=by rw [← Nat.add_mul];congr 1;omega
          rw [Nat.add_mul];omega
         rw [hidx] at hu
         exact k4 _ jj c u (by omega) hcc hu
   · simp only [updL] at hM;rw [zaf] at hM;cases hM
     exact ⟨_,_,r2⟩
 · rintro q li bb (rfl|rfl) hq hbb
   · rw [r1] at hq;cases hq
     exact .inl ⟨id,_,.inr rfl,k1,hbb⟩
   · rw [r2] at hq;cases hq
     simp [LI.owns,Value.ownBlock] at hbb
 · rintro q q' li li' bb (rfl|rfl) (rfl|rfl) hq hq' hb1' hb2'
   · rfl
   · rw [r2] at hq';cases hq';simp [LI.owns,Value.ownBlock] at hb2'
   · rw [r2] at hq;cases hq;simp [LI.owns,Value.ownBlock] at hb1'
   · rfl
theorem zqp (hΓ:zbC P Γ) (I:InvH N C h ρ F M g a w) {t:TypeId} {ts:List TypeId} {args:Array Operand} {tsa:Array TypeId} {y:Operand} (ho:o.op = .call { callee:=.builtin .clear,args:=args,argTypes:=tsa }) (hts:tsa.toList=t::ts) (hargs:args.toList=[y]) {x:AV} (hx:Rel h ρ x (a.eval y)) {r:R}
 (hr:zmP Γ mg t x=some r) (hm:∀ id,id∈r.rd→M id=mg id) (hc:∀ q,r.cs=some q→q):Good P N C h ρ F M g a o w r:=by
 have ha:args.map a.eval = #[a.eval y]:=by
  apply Array.ext';simp [hargs]
 have ht0:tsa[0]? = some t:=by rw [← Array.getElem?_toList,hts];rfl
 unfold zmP at hr
 cases hT:tyOf Γ t with
 | none=>simp [hT] at hr
 | some T=>
 simp only [hT] at hr
 cases hd:T.d <;> simp only [hd] at hr <;> (try (cases hr;done))
 rename_i e
 cases hE:tyOf Γ e with
 | none=>simp [hE] at hr
 | some E=>
 simp only [hE] at hr
 have hu:=(hΓ t T hT).zbz hd
 have hEy:=hΓ e E hE
 cases x <;> simp only [] at hr <;> (try (cases hr;done))
 rename_i id n lo hh
 cases hg:mg id with
 | none=>simp [hg] at hr
 | some bl=>
 cases bl <;> simp only [hg] at hr <;> (try (cases hr;done))
 case bufk ty sz n' c e1=>
  split at hr
  rotate_left
  · cases hr
  rename_i hbb
  simp only [Bool.and_eq_true] at hbb
  obtain ⟨hb1,hb2⟩:=hbb
  have hty:=Nat.eq_of_beq_eq_true hb1
  have hsz:=Nat.eq_of_beq_eq_true hb2
  subst hty
  cases hr
  obtain ⟨rfl,rfl,hhc⟩:=hc _ rfl
  have hMid:M id=some (.bufk ty sz lo c e1):=(hm id (by simp)).trans hg
  obtain ⟨v0,us,k1,k2,⟨gg,cap,rfl,hcap⟩,k3,k5,k4⟩:=I.blk id _ hMid
  generalize hye:a.eval y=yv at hx
  cases hx with
  | sb _ _ _ _ _ n1 sz1 yv v1 hb hle h1 he=>
  rw [k1] at hb;cases hb
  obtain ⟨gg',cap',q1,rfl⟩:=he rfl
  cases q1
  rcases k2.2 with ⟨q,_⟩|⟨g1,cap1,cur,q,q0,q3,q4,q5,q6,q7⟩
  · cases q
  cases q
  by_cases hz:hh - lo=0
  · -- nothing to clear
    refine ⟨.tuple #[],w,h,ρ,.inl (execOp_builtin ho ?_),?_,.any _ _⟩
    · simp only [builtin,ha,hye,hz,Builtin.clear_,Sem.run_bind,Sem.run_pure,Result.andThen_ok,ht0]
      simp [run_underlying hu,go_sem]
    · have:updL M [(id,.bufk ty sz lo c e1)]=M:=by
       funext q
       simp only [updL]
       by_cases hq:q=id
       · subst hq;rw [zaf];exact hMid.symm
       · rw [zae _ _ hq]
      show InvH N C h ρ F (updL M [(id,.bufk ty sz lo c e1)]) g a w
      rw [this];exact I
  · have hne:cap≠lo:=by omega
    obtain ⟨zs,hzs⟩:∃ zs,(Builtin.zeroCells E.zeroV.cells (hh - lo)).toList=zs:=⟨_,rfl⟩
    have hzl:zs.length=(hh - lo) * sz:=by
     rw [← hzs,zbD hEy]
     simp [Builtin.zeroCells,hEy.len,hsz]
    have hz1:∀ v∈zs,v.oneCell'=true:=by
     intro v hv
     rw [← hzs,zbD hEy] at hv
     simp only [Builtin.zeroCells,Array.toList_flatten,Array.toList_replicate,Array.toList_map] at hv
     simp at hv
     obtain ⟨q,hq1,hq2⟩:=hv
     have hpos:0<E.zero.length:=by
      rcases Nat.eq_zero_or_pos E.zero.length with h0|h0
      · rw [h0] at hq1;simp at hq1
      · exact h0
     have hlt:=Nat.mod_lt q hpos
     rw [List.getElem?_eq_getElem hlt] at hq2
     simp at hq2
     subst hq2
     exact (zc9 (Rel.ze3 (fun _=>none) ρ0 _) (hEy.one _ (List.getElem_mem hlt))).1
    have hfit:lo * sz+zs.length≤cur.size:=by
     rw [hzl,q6]
     have:lo * sz+(hh - lo) * sz=hh * sz:=by rw [← Nat.add_mul];congr 1;omega
     rw [this];exact Nat.mul_le_mul_right _ (by omega)
    have hst:=run_storeCells_at P gg (lo * sz) ty zs 0 cur w q3 (by simpa using hfit) hz1
    simp only [Nat.add_zero] at hst
    refine ⟨.tuple #[],w.setRow gg (cur.toList.take (lo * sz)++zs++cur.toList.drop (lo * sz+zs.length)).toArray,h,ρ,.inl (execOp_builtin ho ?_),I.ziO k1 _ rfl rfl rfl (by simp) (fun kk hk=>setRow_other w gg kk _ (fun ee=>hk (by rw [ee];rfl))) ?_,.any _ _⟩
    · obtain ⟨m,hm'⟩:∃ m,hh - lo=m+1:=⟨hh - lo - 1,by omega⟩
      rw [hm'] at hzs
      simp only [builtin,ha,hye,if_neg hne,hm',Builtin.clear_,Sem.run_bind,Sem.run_pure,Result.andThen_ok,ht0]
      simp [run_underlying hu,hEy.ze2 w,go_sem]
      change (((Sem.run P (storeCells ⟨gg,lo * sz,none⟩ (Builtin.zeroCells E.zeroV.cells (m+1)).toList) w).andThen fun a w'=>Result.ok (Value.tuple #[]) w').andThen fun a w'=>Result.ok (Next.value a) w')=_
      rw [hzs,hst]
      simp
    · refine ⟨_,us,k1,⟨k2.1,.inr ⟨gg,cap,_,rfl,q0,setRow_heap w gg _ _ ty _ q3,q4,q5,?_,?_⟩⟩,⟨gg,cap,rfl,hcap⟩,k3,k5,k4⟩
      · have:=zi7 cur.toList zs (lo * sz) (by simpa using hfit)
        simp only [List.size_toArray]
        rw [this];simpa using q6
      · rw [← q7]
        apply List.ext_getElem?
        intro q
        simp only [List.getElem?_take,List.toList_toArray]
        by_cases hq:q<lo * sz
        · rw [if_pos hq,if_pos hq,zf3 _ _ _ (by simpa using hfit),if_neg (by omega)]
        · rw [if_neg hq,if_neg hq]
 case buf ty sz n' e1=>
  split at hr
  rotate_left
  · cases hr
  rename_i hbb
  simp only [Bool.and_eq_true] at hbb
  obtain ⟨hb1,hb2⟩:=hbb
  have hty:=Nat.eq_of_beq_eq_true hb1
  have hsz:=Nat.eq_of_beq_eq_true hb2
  subst hty
  cases hr
  obtain ⟨rfl,hlh,hhn⟩:=hc _ rfl
  have hMid:M id=some (.buf ty sz n e1):=(hm id (by simp)).trans hg
  obtain ⟨v0,us,k1,k2,k3,k5,k4⟩:=I.blk id _ hMid
  generalize hye:a.eval y=yv at hx
  cases hx with
  | sb _ _ _ _ _ n1 sz1 yv v1 hb hle h1 he=>
  rw [k1] at hb;cases hb
  obtain ⟨gg,cap,rfl,rfl⟩:=he rfl
  by_cases hz:hh - lo=0
  · refine ⟨.tuple #[],w,h,ρ,.inl (execOp_builtin ho ?_),?_,.any _ _⟩
    · simp only [builtin,ha,hye,hz,Builtin.clear_,Sem.run_bind,Sem.run_pure,Result.andThen_ok,ht0]
      simp [run_underlying hu,go_sem]
    · have e0:(fun q=>if lo≤q∧q<hh then zeros E.zero else e1 q)=e1:=by funext q;rw [if_neg (by omega)]
      have:updL M [(id,.buf ty sz n (fun q=>if lo≤q∧q<hh then zeros E.zero else e1 q))]=M:=by
       rw [e0]
       funext q
       simp only [updL]
       by_cases hq:q=id
       · subst hq;rw [zaf];exact hMid.symm
       · rw [zae _ _ hq]
      show InvH N C h ρ F (updL M [(id,.buf ty sz n (fun q=>if lo≤q∧q<hh then zeros E.zero else e1 q))]) g a w
      rw [this];exact I
  · rcases k2.2 with ⟨q,_⟩|⟨g1,cap1,cur,q,q0,q3,q4,q5,q6,q7⟩
    · cases q
    cases q
    have hne:cap≠lo:=by omega
    obtain ⟨zs,hzs⟩:∃ zs,(Builtin.zeroCells E.zeroV.cells (hh - lo)).toList=zs:=⟨_,rfl⟩
    have hzl:zs.length=(hh - lo) * sz:=by
     rw [← hzs,zbD hEy]
     simp [Builtin.zeroCells,hEy.len,hsz]
    have hzm:zs=(madeCells E.zero.toArray ((hh - lo) * E.size)).toList:=by
     rw [← hzs,zbD hEy]
     simp [Builtin.zeroCells,madeCells,hEy.len]
    have hz1:∀ v∈zs,v.oneCell'=true:=by
     intro x hx
     rw [hzm] at hx
     simp only [Array.mem_toList_iff,madeCells,Array.mem_map,Array.mem_range] at hx
     obtain ⟨k,hk,rfl⟩:=hx
     have hpos:0<E.size:=by
      rcases Nat.eq_zero_or_pos E.size with h0|h0
      · rw [h0] at hk;simp at hk
      · exact h0
     have hlt:k % E.zero.length<E.zero.length:=by rw [hEy.len];exact Nat.mod_lt _ hpos
     have:E.zero.toArray[k % E.zero.toArray.size]! = E.zero[k % E.zero.length]:=by simp [hlt]
     rw [this]
     exact (zc9 (Rel.ze3 (fun _=>none) ρ0 _) (hEy.one _ (List.getElem_mem hlt))).1
    have hsum:lo * sz+(hh - lo) * sz=hh * sz:=by rw [← Nat.add_mul];congr 1;omega
    have hfitn:lo * sz+zs.length≤n * sz:=by rw [hzl,hsum];exact Nat.mul_le_mul_right _ hhn
    have hfit:lo * sz+zs.length≤cur.size:=by
     refine Nat.le_trans hfitn ?_
     rw [q6];exact Nat.mul_le_mul_right _ (by omega)
    have hst:=run_storeCells_at P gg (lo * sz) ty zs 0 cur w q3 (by simpa using hfit) hz1
    simp only [Nat.add_zero] at hst
    obtain ⟨cur2,c1,c2,c3⟩:=zfy k2 (lo * sz) zs hfitn
    rw [q3] at c1;cases c1
    have husl:us.length=n * sz:=k2.1
    refine ⟨.tuple #[],w.setRow gg (cur.toList.take (lo * sz)++zs++cur.toList.drop (lo * sz+zs.length)).toArray,h,ρ,.inl (execOp_builtin ho ?_),I.ziO k1 _ rfl rfl rfl (by simp) (fun kk hk=>setRow_other w gg kk _ (fun ee=>hk (by rw [ee];rfl))) ?_,.any _ _⟩
    · obtain ⟨m,hm'⟩:∃ m,hh - lo=m+1:=⟨hh - lo - 1,by omega⟩
      rw [hm'] at hzs
      simp only [builtin,ha,hye,if_neg hne,hm',Builtin.clear_,Sem.run_bind,Sem.run_pure,Result.andThen_ok,ht0]
      simp [run_underlying hu,hEy.ze2 w,go_sem]
      change (((Sem.run P (storeCells ⟨gg,lo * sz,none⟩ (Builtin.zeroCells E.zeroV.cells (m+1)).toList) w).andThen fun a w'=>Result.ok (Value.tuple #[]) w').andThen fun a w'=>Result.ok (Next.value a) w')=_
      rw [hzs,hst]
      simp
    · refine ⟨_,_,k1,c3,fun i hi=>?_,fun u hu=>?_,fun i j c x hi hj hx=>?_⟩
      · dsimp only
        split
        · rw [zby,hEy.len,hsz]
        · exact k3 i hi
      · rw [List.mem_append,List.mem_append] at hu
        rcases hu with (hu|hu)|hu
        · exact k5 u (List.mem_of_mem_take hu)
        · exact hz1 u hu
        · exact k5 u (List.mem_of_mem_drop hu)
      · rw [zf3 _ _ _ (by rw [husl];exact hfitn)] at hx
        dsimp only at hj
        by_cases hin:lo≤i∧i<hh
        · rw [if_pos hin] at hj
          have hj':j<sz:=by rw [hsz,← hEy.len,← zby];exact (List.getElem?_eq_some_iff.1 hj).1
          have ei:i * sz=lo * sz+(i - lo) * sz:=by rw [← Nat.add_mul];congr 1;omega
          have hlt2:(i - lo) * sz+j<(hh - lo) * sz:=by
           have h4:(i - lo) * sz+sz≤(hh - lo) * sz:=by
            have:(i - lo) * sz+sz=(i - lo+1) * sz:=by rw [Nat.add_mul,Nat.one_mul]
            rw [this];exact Nat.mul_le_mul_right _ (by omega)
           omega
          rw [if_pos (by rw [hzl];omega)] at hx
          have ep:i * sz+j - lo * sz=(i - lo) * sz+j:=by omega
          rw [ep,hzm] at hx
          have hrep:(repL (zeros E.zero) (hh - lo))[(i - lo) * sz+j]? = some c:=by
           rw [zhv (by rw [zby,hEy.len,← hsz];exact hlt2),zby,hEy.len,← hsz]
           rw [Nat.mul_comm,Nat.mul_add_mod,Nat.mod_eq_of_lt hj'];exact hj
          exact (RelL.made hEy h ρ0 (hh - lo)).2 _ c x hrep hx
        · rw [if_neg hin] at hj
          have hj':j<sz:=by rw [← k3 i hi];exact (List.getElem?_eq_some_iff.1 hj).1
          have hout:¬ (lo * sz≤i * sz+j∧i * sz+j<lo * sz+zs.length):=by
           rw [hzl,hsum]
           intro hq
           by_cases h5:i<lo
           · have:(i+1) * sz≤lo * sz:=Nat.mul_le_mul_right _ (by omega)
             rw [Nat.add_mul,Nat.one_mul] at this
             omega
           · have:hh * sz≤i * sz:=Nat.mul_le_mul_right _ (by omega)
             omega
          rw [if_neg hout] at hx
          exact k4 i j c x hi hj hx
theorem zq8 (hΓ:zbC P Γ) (I:InvH N C h ρ F M g a w) {t t2:TypeId} {args:Array Operand} {tsa:Array TypeId} {y z:Operand} (ho:o.op = .call { callee:=.builtin .copy,args:=args,argTypes:=tsa }) (hts:tsa.toList=[t,t2]) (hargs:args.toList=[y,z]) {x1 x2:AV} (hx:Rel h ρ x1 (a.eval y)) (hx2:Rel h ρ x2 (a.eval z)) {r:R}
 (hr:zpk Γ mg t x1 x2=some r) (hm:∀ id,id∈r.rd→M id=mg id) (hc:∀ q,r.cs=some q→q):Good P N C h ρ F M g a o w r:=by
 have ha:args.map a.eval = #[a.eval y,a.eval z]:=by
  apply Array.ext';simp [hargs]
 have htsa:tsa = #[t,t2]:=by apply Array.ext';simp [hts]
 subst htsa
 unfold zpk at hr
 cases hT:tyOf Γ t with
 | none=>simp [hT] at hr
 | some T=>
 simp only [hT] at hr
 cases hd:T.d <;> simp only [hd] at hr <;> (try (cases hr;done))
 rename_i e
 cases hE:tyOf Γ e with
 | none=>simp [hE] at hr
 | some E=>
 simp only [hE] at hr
 have hu:=(hΓ t T hT).zbz hd
 have hEy:=hΓ e E hE
 cases hb1:Nat.beq 1 E.size with
 | false=>simp [hb1] at hr
 | true=>
 simp only [hb1] at hr
 have hE1:=Nat.eq_of_beq_eq_true hb1
 have hinfo:(P.info? e).map (·.size)=some 1:=by
  obtain ⟨i,i1,i2,_⟩:=hEy.info
  rw [i1];simp [i2,← hE1]
 -- the copy itself: what lies at the source goes over
 have core:∀ {ty n gg cap:Nat} {us:List Value} {cur:Array Value} (lo dl dc:Nat) (ad:Addr) (sl sc:Nat) (news:List Value),w.heap[gg]? = some (.cells cur ty (0,0))→news.length=min sl dl→lo+news.length≤cur.size→(∀ v∈news,v.oneCell'=true)→(∀ j v,news[j]? = some v→w.cell? (ad.add j)=some v) →
  (Builtin.copy_ #[t,t2] o.type #[.slice (some ⟨gg,lo,none⟩) dl dc,.slice (some ad) sl sc]).run P w = .ok (goInt news.length) (w.setRow gg (cur.toList.take lo++news++cur.toList.drop (lo+news.length)).toArray):=by
  intro ty n gg cap us cur lo dl dc ad sl sc news hg hn hfit h1 hsrc
  exact run_copy_row P w t t2 o.type e gg lo dl dc ad sl sc cur ty news hu hinfo hg hn hsrc hfit h1
 have nothing:∀ (d s:Option Addr) (dl dc sl sc:Nat),min sl dl=0→(Builtin.copy_ #[t,t2] o.type #[.slice d dl dc,.slice s sl sc]).run P w = .ok (goInt 0) w:=by
  intro d s dl dc sl sc hn
  exact run_copy_none w t t2 o.type e d s dl dc sl sc hu hinfo hn
 have same:∀ {k:Nat} {id ty n:Nat} {e1 e1':Nat→List AV} {q:Option Prop},k=0→M id=some (.buf ty 1 n e1)→(∀ i,e1' i=e1 i)→(Builtin.copy_ #[t,t2] o.type #[a.eval y,a.eval z]).run P w = .ok (goInt 0) w→Good P N C h ρ F M g a o w ⟨.int .i64 ((k:Nat):Int),[id],[(id,.buf ty 1 n e1')],q,none⟩:=by
  intro k id ty n e1 e1' q hk hM he hrun
  subst hk
  obtain rfl:e1'=e1:=funext he
  refine ⟨goInt 0,w,h,ρ,.inl (execOp_builtin ho (by simp only [builtin,ha,Sem.run_bind,hrun,Result.andThen_ok,Sem.run_pure])),?_,.int _ _ _⟩
  have:updL M [(id,.buf ty 1 n e1')]=M:=by
   funext q
   simp only [updL]
   by_cases hq:q=id
   · subst hq;rw [zaf];exact hM.symm
   · rw [zae _ _ hq]
  show InvH N C h ρ F (updL M [(id,.buf ty 1 n e1')]) g a w
  rw [this];exact I
 have turned:∀ {id ty n gg cap lo:Nat} {us:List Value} {cur:Array Value} {e1 e1':Nat→List AV} {q:Option Prop} (news:List Value),ρ id=some (.sl n 1 (.slice (some ⟨gg,0,none⟩) n cap))→w.ownsRow 0 ty 1 (.slice (some ⟨gg,0,none⟩) n cap) n us→w.heap[gg]? = some (.cells cur ty (0,0))→lo+news.length≤n→(∀ v∈news,v.oneCell'=true) →
  (∀ x,x∈us→x.oneCell'=true)→(∀ i,i<n→(e1' i).length=1)→(∀ i c x,i<n→(e1' i)[0]? = some c→(if lo≤i∧i<lo+news.length then news[i - lo]? else us[i]?)=some x→Rel h ρ0 c x) →
  (Builtin.copy_ #[t,t2] o.type #[a.eval y,a.eval z]).run P w = .ok (goInt news.length) (w.setRow gg (cur.toList.take lo++news++cur.toList.drop (lo+news.length)).toArray) →
  Good P N C h ρ F M g a o w ⟨.int .i64 ((news.length:Nat):Int),[id],[(id,.buf ty 1 n e1')],q,none⟩:=by
  intro id ty n gg cap lo us cur e1 e1' q news k1 k2 hg hfit hn1 k5 hl hrel hrun
  obtain ⟨cur2,c1,c2,c3⟩:=zfy k2 lo news (by omega)
  rw [hg] at c1;cases c1
  refine ⟨goInt news.length,w.setRow gg (cur.toList.take lo++news++cur.toList.drop (lo+news.length)).toArray,h,ρ,.inl (execOp_builtin ho (by simp only [builtin,ha,Sem.run_bind,hrun,Result.andThen_ok,Sem.run_pure])),I.ziO k1 _ rfl rfl rfl (by simp) (fun kk hk=>setRow_other w gg kk _ (fun ee=>hk (by rw [ee];rfl))) ?_,.int _ _ _⟩
  have hus:us.length=n:=by have:=k2.1;simpa using this
  refine ⟨_,_,k1,c3,hl,fun u hu=>?_,fun i j c x hi hj hx=>?_⟩
  · rw [List.mem_append,List.mem_append] at hu
    rcases hu with (hu|hu)|hu
    · exact k5 u (List.mem_of_mem_take hu)
    · exact hn1 u hu
    · exact k5 u (List.mem_of_mem_drop hu)
  · have hj0:j=0:=by
     have:=(List.getElem?_eq_some_iff.1 hj).1
     rw [hl i hi] at this;omega
    subst hj0
    rw [Nat.mul_one,Nat.add_zero,zf3 _ _ _ (by omega)] at hx
    exact hrel i c x hi hj hx
 cases x1 <;> (try simp only [] at hr) <;> (try (cases hr;done))
 case buf id n=>
  cases x2 <;> (try simp only [] at hr) <;> (try (cases hr;done))
  rename_i sz2 n2 e2
  cases hg:mg id with
  | none=>simp [hg] at hr
  | some bl=>
  cases bl <;> simp only [hg] at hr <;> (try (cases hr;done))
  rename_i ty sz n' e1
  split at hr
  rotate_left
  · cases hr
  rename_i hbb
  simp only [Bool.and_eq_true] at hbb
  obtain ⟨⟨hb2,hb3⟩,hb4⟩:=hbb
  have hsz:=Nat.eq_of_beq_eq_true hb3
  have hsz2:=Nat.eq_of_beq_eq_true hb4
  subst sz;subst sz2
  cases hr
  obtain rfl:=hc _ rfl
  have hMid:M id=some (.buf ty 1 n e1):=(hm id (by simp)).trans hg
  obtain ⟨v0,us,k1,k2,k3,k5,k4⟩:=I.blk id _ hMid
  have hye:a.eval y=v0:=by
   generalize a.eval y=q at hx
   cases hx with
   | buf _ _ _ _ _ _ _ hb' hle k1' he=>rw [k1] at hb';cases hb';exact he rfl
  obtain ⟨ad2,cap2,hze,hcap2⟩:=zhu hx2
  by_cases hz:min n2 n=0
  · refine same hz hMid (fun i=>?_) ?_
    · rw [if_neg (by omega)]
    · rw [hye,hze]
      obtain ⟨ad,cap,rfl,_,_⟩:=zhw k2
      exact nothing _ _ _ _ _ _ hz
  · rcases k2.2 with ⟨_,h0⟩|⟨gg,cap,cur,rfl,_,q3,q4,q5,q6,q7⟩
    · omega
    rw [hze] at hx2
    cases hx2 with
    | ro _ _ _ _ _ _ hnil hcp hl2 hs2 h12 hc2=>
    cases ad2 with
    | none=>have:=hnil rfl;omega
    | some ad2=>
    have hcell:∀ j,j<n2→∃ v,cellOf h (ad2.add j)=some v:=fun j hj=>by
     have:=hs2 j 0 hj (by omega)
     simp only [Nat.mul_one,Nat.add_zero,hcell] at this
     exact Option.isSome_iff_exists.1 this
    obtain ⟨news,hnews⟩:∃ news,(List.range (min n2 n)).map (fun j=>(cellOf h (ad2.add j)).getD undef)=news:=⟨_,rfl⟩
    have hnl:news.length=min n2 n:=by rw [← hnews];simp
    have hnget:∀ j v,news[j]? = some v→j<min n2 n∧cellOf h (ad2.add j)=some v:=fun j v hj=>by
     have hlt:j<min n2 n:=by rw [← hnl];exact (List.getElem?_eq_some_iff.1 hj).1
     obtain ⟨u,hu⟩:=hcell j (by omega)
     rw [← hnews,List.getElem?_map,List.getElem?_range hlt] at hj
     simp [hu] at hj
     exact ⟨hlt,hj▸hu⟩
    have hcur:n * 1≤cur.size:=by rw [q6];exact Nat.mul_le_mul_right _ q4
    have h1n:∀ v∈news,v.oneCell'=true:=fun v hv=>by
     obtain ⟨j,hj⟩:=List.getElem?_of_mem hv
     obtain ⟨k6,k7⟩:=hnget j v hj
     exact h12 j v (by omega) k7
    have:=turned (id:=id) (lo:=0) (e1:=e1) (e1':=fun q=>if q<min n2 n then e2 q else e1 q) (q:=some (n=n)) news k1 k2 q3 (by omega) h1n k5 (fun i hi=>by
     show (if i<min n2 n then e2 i else e1 i).length=1
     split
     · exact hl2 i (by omega)
     · exact k3 i hi) (fun i c x hi hcc hxx=>by
     replace hcc:(if i<min n2 n then e2 i else e1 i)[0]? = some c:=hcc
     by_cases hin:i<min n2 n
     · rw [if_pos hin] at hcc
       rw [if_pos (by omega)] at hxx
       obtain ⟨_,k7⟩:=hnget _ _ hxx
       exact hc2 i 0 c x (by omega) hcc (by rw [Nat.mul_one,Nat.add_zero];exact k7)
     · rw [if_neg hin] at hcc
       rw [if_neg (by omega)] at hxx
       exact k4 i 0 c x hi hcc (by simpa using hxx)) (by
     rw [hye,hze]
     exact core (ty:=ty) (n:=0) (cap:=0) (us:=[]) 0 n cap ad2 n2 cap2 news q3 hnl (by omega) h1n (fun j v hj=>I.cell (hnget j v hj).2))
    rw [hnl] at this
    exact this
 case sb id n lo hh=>
  cases x2 <;> (try simp only [] at hr) <;> (try (cases hr;done))
  rename_i id2 n2 lo2 hh2
  cases hg:mg id with
  | none=>simp [hg] at hr
  | some bl=>
  cases bl <;> simp only [hg] at hr <;> (try (cases hr;done))
  rename_i ty sz n' e1
  split at hr
  rotate_left
  · cases hr
  rename_i hbb
  simp only [Bool.and_eq_true] at hbb
  obtain ⟨⟨hb2,hb3⟩,hb4⟩:=hbb
  have hsz:=Nat.eq_of_beq_eq_true hb3
  have hid:=Nat.eq_of_beq_eq_true hb4
  subst sz;subst id2
  cases hr
  obtain ⟨rfl,hn2,ha1,ha2,ha3,ha4⟩:=hc _ rfl
  subst n2
  have hMid:M id=some (.buf ty 1 n e1):=(hm id (by simp)).trans hg
  obtain ⟨v0,us,k1,k2,k3,k5,k4⟩:=I.blk id _ hMid
  generalize hye:a.eval y=yv at hx
  generalize hze:a.eval z=zv at hx2
  cases hx with
  | sb _ _ _ _ _ m1 sz1 yv v1 hb hle h1 he=>
  rw [k1] at hb;cases hb
  obtain ⟨gg,cap,rfl,rfl⟩:=he rfl
  cases hx2 with
  | sb _ _ _ _ _ m1 sz1 zv v1 hb' hle' h1' he'=>
  rw [k1] at hb';cases hb'
  obtain ⟨gg',cap',q,rfl⟩:=he' rfl
  cases q
  by_cases hz:min (hh2 - lo2) (hh - lo)=0
  · refine same hz hMid (fun i=>?_) ?_
    · rw [if_neg (by omega)]
    · rw [hye,hze];exact nothing _ _ _ _ _ _ hz
  · rcases k2.2 with ⟨q,_⟩|⟨g1,cap1,cur,q,_,q3,q4,q5,q6,q7⟩
    · cases q
    cases q
    have hus:us.length=n:=by have:=k2.1;simpa using this
    have hcur:n≤cur.size:=by rw [q6];omega
    obtain ⟨news,hnews⟩:∃ news,(us.drop lo2).take (min (hh2 - lo2) (hh - lo))=news:=⟨_,rfl⟩
    have hnl:news.length=min (hh2 - lo2) (hh - lo):=by rw [← hnews,List.length_take,List.length_drop];omega
    have hnget:∀ j,j<news.length→news[j]? = us[lo2+j]? := fun j hj=>by
     rw [← hnews,List.getElem?_take,if_pos (by omega),List.getElem?_drop]
    have h1n:∀ v∈news,v.oneCell'=true:=fun v hv=>k5 v (by rw [← hnews] at hv;exact List.mem_of_mem_drop (List.mem_of_mem_take hv))
    have:=turned (id:=id) (lo:=lo) (e1:=e1) (e1':=fun q=>if lo≤q∧q<lo+min (hh2 - lo2) (hh - lo) then e1 (lo2+(q - lo)) else e1 q) (q:=some (n=n∧n=n∧lo≤hh∧hh≤n∧lo2≤hh2∧hh2≤n)) news k1 k2 q3 (by omega) h1n k5 (fun i hi=>by
     show (if lo≤i∧i<lo+min (hh2 - lo2) (hh - lo) then e1 (lo2+(i - lo)) else e1 i).length=1
     split
     · exact k3 _ (by omega)
     · exact k3 i hi) (fun i c x hi hcc hxx=>by
     replace hcc:(if lo≤i∧i<lo+min (hh2 - lo2) (hh - lo) then e1 (lo2+(i - lo)) else e1 i)[0]? = some c:=hcc
     by_cases hin:lo≤i∧i<lo+min (hh2 - lo2) (hh - lo)
     · rw [if_pos hin] at hcc
       rw [if_pos (by omega),hnget _ (by omega)] at hxx
       exact k4 _ 0 c x (by omega) hcc (by simpa using hxx)
     · rw [if_neg hin] at hcc
       rw [if_neg (by omega)] at hxx
       exact k4 i 0 c x hi hcc (by simpa using hxx)) (by
     have e1':(if cap=lo then (⟨gg,0,none⟩:Addr) else ⟨gg,lo * 1,none⟩)=⟨gg,lo,none⟩:=by rw [if_neg (by omega),Nat.mul_one]
     have e2':(if cap=lo2 then (⟨gg,0,none⟩:Addr) else ⟨gg,lo2 * 1,none⟩)=⟨gg,lo2,none⟩:=by rw [if_neg (by omega),Nat.mul_one]
     rw [hye,hze,e1',e2']
     refine core (ty:=ty) (n:=0) (cap:=0) (us:=[]) lo (hh - lo) (cap - lo) ⟨gg,lo2,none⟩ (hh2 - lo2) (cap - lo2) news q3 hnl (by omega) h1n (fun j v hj=>?_)
     have hlt:=(List.getElem?_eq_some_iff.1 hj).1
     rw [hnget j hlt] at hj
     have:=k2.cells (g:=gg) rfl (lo2+j) v hj
     rw [Addr.add_lit] at this ⊢
     simpa using this)
    rw [hnl] at this
    exact this
end
end Go.Av
end
/- Rows that are owned, and grow: a slice of one owned row; an append of owned rows to owned rows. -/
section
set_option linter.all false
namespace Go.Av
section
variable {P:Program} {N:Nat} {C:Ctx} {h:Hp} {ρ:Rho} {F:Fr} {M:Mm} {g:Nat} {a:Act} {w:World} {Γ:Tys} {mg:Mm} {o:Oper}
end
end Go.Av
end
/- The evaluator is right: the whole, for operations that call no Go function. -/
section
set_option linter.all false
namespace Go.Av
section
variable {P:Program} {N:Nat} {C:Ctx} {h:Hp} {ρ:Rho} {F:Fr} {M:Mm} {g:Nat} {a:Act} {w:World} {Γ:Tys} {mg:Mm} {o:Oper} {own:List Nat}
theorem ziV {α:Type} {l:List α} (h:l.length=1):∃ x,l=[x]:=by
 match l,h with
 | [x],_=>exact ⟨x,rfl⟩
theorem znp {α:Type} {l:List α} (h:l.length=2):∃ x y,l=[x,y]:=by
 match l,h with
 | [x,y],_=>exact ⟨x,y,rfl⟩
theorem zn5 (hΓ:zbC P Γ) (I:InvH N C h ρ F M g a w) {b:Builtin} {args:Array Operand} {tsa:Array TypeId} (ho:o.op = .call { callee:=.builtin b,args:=args,argTypes:=tsa }) {val:Operand→AV} (hv:∀ y,y∈o.op.operands→Rel h ρ (val y) (a.eval y)) {r:R}
 (hr:zeJ Γ mg o b tsa.toList (zfC val args.toList)=some r) (hm:∀ id,id∈r.rd→M id=mg id) (hc:∀ q,r.cs=some q→q):Good P N C h ρ F M g a o w r:=by
 have hargs:∀ x∈args.toList,Rel h ρ (val x) (a.eval x):=fun x hx=>hv x (zed ho hx)
 have hrel:=zee args.toList hargs
 unfold zeJ at hr
 split at hr
 · -- len
   rename_i t ts x hts hxs
   rw [zfi] at hxs
   obtain ⟨y,hy⟩:∃ y,args.toList=[y]:=ziV (by have:=congrArg List.length hxs;simpa using this)
   have hxy:x=val y:=by rw [hy] at hxs;simp at hxs;exact hxs.symm
   subst hxy
   exact ev_len hΓ I ho hts hy (hargs y (by rw [hy];simp)) (by simp only [zeJ];exact hr) hm hc
 · -- clear
   rename_i t ts x hts hxs
   rw [zfi] at hxs
   obtain ⟨y,hy⟩:∃ y,args.toList=[y]:=ziV (by have:=congrArg List.length hxs;simpa using this)
   have hxy:x=val y:=by rw [hy] at hxs;simp at hxs;exact hxs.symm
   subst hxy
   exact zqp hΓ I ho hts hy (hargs y (by rw [hy];simp)) hr hm hc
 · -- cap
   rename_i t ts hts hxs
   rw [zfi] at hxs
   obtain ⟨y,hy⟩:∃ y,args.toList=[y]:=ziV (by have:=congrArg List.length hxs;simpa using this)
   have hxy:val y = .nilS:=by rw [hy] at hxs;simpa using hxs
   split at hr
   · rename_i T hT
     split at hr
     · rename_i e hd
       cases hr
       have hx:=hargs y (by rw [hy];simp)
       rw [hxy] at hx
       have he:a.eval y = .slice none 0 0:=by generalize a.eval y=v at hx;cases hx;rfl
       have hu:=(hΓ t T hT).zbz hd
       have ha:args.map a.eval = #[.slice none 0 0]:=by apply Array.ext';simp [hy,he]
       have ht0:tsa[0]? = some t:=by rw [← Array.getElem?_toList,hts];rfl
       refine Good.same I (x:=.int .i64 0) (.inl (execOp_builtin ho ?_)) rfl (.int _ _ _)
       have hcap:(Builtin.cap_ tsa o.type #[.slice none 0 0]).run P w = .ok (.int .i64 0) w:=by
        simp [Builtin.cap_,ht0,run_underlying hu,goInt]
       simp only [builtin,ha,Sem.run_bind,hcap,Result.andThen_ok,Sem.run_pure]
     · cases hr
   · cases hr
 · -- copy
   rename_i t t2 x1 x2 hts hxs
   rw [zfi] at hxs
   obtain ⟨y,z,hyz⟩:∃ y z,args.toList=[y,z]:=znp (by have:=congrArg List.length hxs;simpa using this)
   have hs:x1=val y∧x2=val z:=by rw [hyz] at hxs;simp at hxs;exact ⟨hxs.1.symm,hxs.2.symm⟩
   obtain ⟨rfl,rfl⟩:=hs
   exact zq8 hΓ I ho hts hyz (hargs y (by rw [hyz];simp)) (hargs z (by rw [hyz];simp)) hr hm hc
 · -- append
   rename_i t t' s x hts hxs
   rw [zfi] at hxs
   obtain ⟨y,z,hyz⟩:∃ y z,args.toList=[y,z]:=znp (by have:=congrArg List.length hxs;simpa using this)
   have hs:s=val y∧x=val z:=by rw [hyz] at hxs;simp at hxs;exact ⟨hxs.1.symm,hxs.2.symm⟩
   obtain ⟨rfl,rfl⟩:=hs
   have hry:=hargs y (by rw [hyz];simp)
   have hrz:=hargs z (by rw [hyz];simp)
   cases hb:Nat.beq t t' with
   | false=>
    simp only [hb] at hr
    have ho':o.op = .call { callee:=.builtin .append,args:=#[y,z],argTypes:=#[t,t'] }:=by
     rw [ho]
     have e1:args = #[y,z]:=by apply Array.ext';exact hyz
     have e2:tsa = #[t,t']:=by apply Array.ext';exact hts
     rw [e1,e2]
    exact zn6 hΓ I ho' hry hrz hr hm hc
   | true=>
   simp only [hb] at hr
   have htt:=Nat.eq_of_beq_eq_true hb
   subst htt
   have ho':o.op = .call { callee:=.builtin .append,args:=#[y,z],argTypes:=#[t,t] }:=by
    rw [ho]
    have e1:args = #[y,z]:=by apply Array.ext';exact hyz
    have e2:tsa = #[t,t]:=by apply Array.ext';exact hts
    rw [e1,e2]
   split at hr
   · rename_i id n b id2 n2 j k hvy hvz
     exact zn7 hΓ I ho' (hvy▸hry) (hvz▸hrz) hr hm hc
   rename_i hnsb
   clear hnsb
   unfold znC at hr
   cases hT:tyOf Γ t with
   | none=>simp [hT] at hr
   | some T=>
   simp only [hT] at hr
   cases hd:T.d <;> simp only [hd] at hr <;> (try (cases hr;done))
   rename_i e
   cases hE:tyOf Γ e with
   | none=>simp [hE] at hr
   | some E=>
   simp only [hE] at hr
   cases hro:asRo mg (val z) with
   | none=>simp [hro] at hr
   | some q=>
   obtain ⟨sz2,n2,e2,rd,c⟩:=q
   simp only [hro] at hr
   cases hb2:Nat.beq sz2 E.size with
   | false=>simp [hb2] at hr
   | true=>
   simp only [hb2] at hr
   have hsz:=Nat.eq_of_beq_eq_true hb2
   subst hsz
   cases hpos:E.size with
   | zero=>simp [hpos] at hr
   | succ k=>
   have hpos':0<E.size:=by omega
   simp only [hpos] at hr
   rw [← hpos] at hr
   cases hvy:val y <;> simp only [hvy] at hr <;> (try (cases hr;done))
   case nilS=>
    cases hf:fresh mg o with
    | none=>simp [hf] at hr
    | some d=>
    simp only [hf] at hr
    cases hr
    rw [hvy] at hry
    exact zkX hΓ I ho' hT hd hE hpos' hry hrz hro (fun id hid=>hm id (by simp [hid])) ((hm d (by simp)).trans (zcM hf).2) hc
   case buf id n=>
    cases hg:mg id with
    | none=>simp [hg] at hr
    | some bl=>
    cases bl <;> simp only [hg] at hr <;> (try (cases hr;done))
    rename_i ty sz n' e1
    cases hb3:Nat.beq ty e with
    | false=>simp [hb3] at hr
    | true=>
    simp only [hb3] at hr
    have hte:=Nat.eq_of_beq_eq_true hb3
    subst hte
    cases hb4:Nat.beq sz E.size with
    | false=>simp [hb4] at hr
    | true=>
    simp only [hb4] at hr
    cases hr
    rw [hvy] at hry
    exact zkY hΓ I ho' hT hd hE hpos' hry ((hm id (by simp)).trans hg) (Nat.eq_of_beq_eq_true hb4) hrz hro (fun j hj=>hm j (by simp [hj])) hc
 · -- max
   rename_i p xs hxs
   split at hr
   · rename_i m hmx
     cases hr
     exact zl3 I ho (by rw [← hxs];exact hrel) (.inl ⟨rfl,hmx⟩)
   · cases hr
 · -- min
   rename_i p xs hxs
   split at hr
   · rename_i m hmx
     cases hr
     exact zl3 I ho (by rw [← hxs];exact hrel) (.inr ⟨rfl,hmx⟩)
   · cases hr
 · cases hr
def ziz:Op→Bool
 | .call ⟨.value _,_,_⟩=>true
 | _=>false
theorem run_move {x:Operand} (ho:o.op = .move x∨o.op = .assign x):(execOp a.eval o).run P w = .ok (.value (a.eval x)) w:=by
 unfold execOp
 rcases ho with ho|ho <;> simp only [ho,Sem.run_pure]
theorem zhV {p q:Option Prop} (H:∀ x,andO p q=some x→x):∀ x,p=some x→x:=by
 intro x hx
 subst hx
 cases q with
 | none=>exact H _ rfl
 | some y=>exact (H _ rfl).1
theorem zgP {p q:Option Prop} (H:∀ x,andO p q=some x→x):∀ x,q=some x→x:=by
 intro x hx
 subst hx
 cases p with
 | none=>exact H _ rfl
 | some y=>exact (H _ rfl).2
theorem zeb {H2:Hp} {ty sz n:Nat} {v:Value} {us:List Value} {e:Nat→List AV} (e2:w.ownsRow 0 ty sz v n us) (hH:∀ b,v.ownBlock=some b→H2 b=w.heap[b]?) (e3:∀ i,i<n→(e i).length=sz) (e5:∀ x,x∈us→x.oneCell'=true)
 (e4:∀ (i j:Nat) (c:AV) (x:Value),i<n→(e i)[j]? = some c→us[i * sz+j]? = some x→Rel H2 ρ0 c x):Rel H2 ρ0 (.ro sz n e) v:=by
 rcases e2.2 with ⟨rfl,h0'⟩|⟨b,cap,cur,rfl,_,q3,q4,q5,q6,q7⟩
 · subst h0'
   exact .ro _ _ _ _ none 0 (fun _=>rfl) ⟨Nat.le_refl _,Nat.zero_le _⟩ (fun i hi=>by omega) (fun i j hi=>by omega) (fun k v hk=>by simp at hk) (fun i j c v hi=>by omega)
 · have key:∀ k,k<n * sz→hcell H2 (some ⟨b,0,none⟩) k=us[k]? := by
    intro k hk
    simp only [hcell,cellOf,Addr.add_lit]
    simp only [hH b rfl,q3]
    rw [← q7]
    simp [hk]
   have hlt:∀ i j,i<n→j<sz→i * sz+j<n * sz:=by
    intro i j hi hj
    calc i * sz+j<i * sz+sz:=by omega
     _=(i+1) * sz:=by rw [Nat.add_mul,Nat.one_mul]
     _≤n * sz:=Nat.mul_le_mul_right _ hi
   refine .ro _ _ _ _ _ _ (fun e=>by cases e) ⟨q4,Nat.le_trans q4 q5⟩ e3 (fun i j hi hj=>?_) (fun k v hk hv=>?_) (fun i j c v hi hj hv=>?_)
   · rw [key _ (hlt i j hi hj)]
     have:=hlt i j hi hj
     rw [← e2.1] at this
     simp [this]
   · rw [key _ hk] at hv
     exact e5 v (List.mem_of_getElem? hv)
   · have hj':j<sz:=by rw [← e3 i hi];exact (List.getElem?_eq_some_iff.1 hj).1
     rw [key _ (hlt i j hi hj')] at hv
     exact e4 i j c v hi hj hv
theorem InvH.frz (I:InvH N C h ρ F M g a w) (hbor:∀ b,¬ C.bor b) {id ty sz n:Nat} {e:Nat→List AV} (hM:M id=some (.buf ty sz n e)) :
 ∃ h' ρ' v,InvH N C h' ρ' F (upd M id (some .dead)) g a w∧ρ id=some (.sl n sz v)∧Rel h' ρ' (.ro sz n e) v:=by
 obtain ⟨v,us,k1,k2,k3,k5,k4⟩:=I.blk id _ hM
 classical
 let h':Hp:=fun b=>if v.ownBlock=some b then w.heap[b]? else h b
 let ρ':Rho:=upd ρ id (some (.sl (n+1) sz (.slice none 0 0)))
 have hdead:ρ' id=some (.sl (n+1) sz (.slice none 0 0)):=zaf _ _ _
 have hoth:∀ j,j≠id→ρ' j=ρ j:=fun j hj=>zae _ _ hj
 have hin:∀ b,v.ownBlock=some b→h' b=w.heap[b]? := fun b hb=>if_pos hb
 have hle:∀ b o,h b=some o→h' b=some o:=by
  intro b o hb
  show (if v.ownBlock=some b then w.heap[b]? else h b)=some o
  split
  · exact I.hp b o hb
  · exact hb
 have hge:∀ b,v.ownBlock=some b→C.w0.heap.size≤b:=fun b hb=>(I.own id _ b k1 hb).2.2.resolve_right (hbor b)
 have hnew:∀ b o,h' b=some o→(v.ownBlock=some b∧w.heap[b]? = some o)∨h b=some o:=by
  intro b o hb
  have:(if v.ownBlock=some b then w.heap[b]? else h b)=some o:=hb
  split at this
  · exact .inl ⟨by assumption,this⟩
  · exact .inr this
 have hrl:∀ j l,ρ j=some l→∃ l',ρ' j=some l'∧l.le l':=by
  intro j l hj
  by_cases e1:j=id
  · subst e1
    rw [k1] at hj;cases hj
    exact ⟨_,hdead,.inr (.inl ⟨_,_,_,_,_,rfl,rfl,Nat.lt_succ_self _⟩)⟩
  · exact ⟨l,by rw [hoth j e1];exact hj,.inl rfl⟩
 have howns:∀ b,¬ (LI.sl (n+1) sz (.slice none 0 0)).owns b:=fun b hb=>by simp [LI.owns,Value.ownBlock] at hb
 refine ⟨h',ρ',v,{ I with slot:=fun t=>(I.slot t).mono (Le.of hle) hrl,sav:=⟨I.sav.1,fun i c x h1 h2=>(I.sav.2 i c x h1 h2).mono (Le.of hle) hrl⟩,hp:=fun b o hb=>?_,blk:=fun i x hx=>?_,dom:=fun i hi=>?_,own:=fun i li b q1 q2=>?_,inj:=fun i i' li li' b q1 q1' q2 q2'=>?_,ext:=fun b o hb=>hle b o (I.ext b o hb),old:=fun b o hb hlt=>?_,gst:=?_,dfr:=?_ },k1,(zeb k2 (fun b hb=>hin b hb) k3 k5 (fun i j c x a1 a2 a3=>(k4 i j c x a1 a2 a3).heap (Le.of hle))).closed⟩
 · rcases hnew b o hb with q|q
   · exact q.2
   · exact I.hp b o q
 · by_cases e1:i=id
   · subst e1
     rw [zaf] at hx;cases hx
     exact ⟨_,_,hdead⟩
   · rw [zae _ _ e1] at hx
     exact (I.blk i x hx).keep (Le.of hle) (hoth i e1) hrl (fun _ _ _ _=>rfl)
 · by_cases e1:i=id
   · subst e1;rw [zaf] at hi;cases hi
   · rw [zae _ _ e1] at hi;rw [hoth i e1];exact I.dom i hi
 · by_cases e1:i=id
   · subst e1;rw [hdead] at q1;cases q1;exact absurd q2 (howns b)
   · rw [hoth i e1] at q1
     obtain ⟨q3,q4,q5⟩:=I.own i li b q1 q2
     refine ⟨?_,q4,q5⟩
     show (if v.ownBlock=some b then w.heap[b]? else h b)=none
     rw [if_neg (fun q:v.ownBlock=some b=>e1 (I.inj i id li _ b q1 k1 q2 q))];exact q3
 · by_cases e1:i=id
   · subst e1;rw [hdead] at q1;cases q1;exact absurd q2 (howns b)
   · by_cases e2:i'=id
     · subst e2;rw [hdead] at q1';cases q1';exact absurd q2' (howns b)
     · rw [hoth i e1] at q1;rw [hoth i' e2] at q1'
       exact I.inj i i' li li' b q1 q1' q2 q2'
 · rcases hnew b o hb with q|q
   · exact absurd hlt (Nat.not_lt.2 (hge b q.1))
   · exact I.old b o q hlt
 · obtain ⟨X,x1,x2,x3⟩:=I.gst
   refine ⟨X,fun b ⟨i,li,q1,q2⟩=>?_,fun b o hb=>?_,x3⟩
   · by_cases e1:i=id
     · subst e1;rw [hdead] at q1;cases q1;exact absurd q2 (howns b)
     · rw [hoth i e1] at q1;exact x1 b ⟨i,li,q1,q2⟩
   · rcases hnew b o hb with q|q
     · exact .inr (x1 b ⟨id,_,k1,q.1⟩)
     · exact x2 b o q
 · obtain ⟨Ds,hd1,hd2,hd3⟩:=I.dfr
   exact ⟨Ds,hd1,hd2,fun D hD=>⟨hle _ _ (hd3 D hD).1,(hd3 D hD).2⟩⟩
def FzOk (own:List Nat) (C:Ctx):Prop:=noFz own=true∨∀ b,¬ C.bor b
theorem zlG {d:Nat}:∀ {own:List Nat},noFz own=true→zbf own (16777216+d % 16777216)=false
 | [],_=>rfl
 | k::r,h=>by
  unfold noFz at h
  split at h
  · cases h
  · rename_i hb
    have hlt:¬ (16777216≤k∧k<33554432):=fun hle=>by
     have h1:Nat.ble 16777216 k=true:=Nat.ble_eq_true_of_le hle.1
     have h2:Nat.blt k 33554432=true:=Nat.ble_eq_true_of_le hle.2
     rw [h1,h2] at hb;cases hb
    unfold zbf
    cases hq:Nat.beq k (16777216+d % 16777216) with
    | true=>have:=Nat.eq_of_beq_eq_true hq;have:=Nat.mod_lt d (show 16777216 > 0 by omega);omega
    | false=>exact zlG h
theorem frz_rd {r0:Option R} {r:R} (hf:frz own o r0=some r):∃ r1,r0=some r1∧r1.rd=r.rd∧((∀ q,r.cs=some q→q)→∀ q,r1.cs=some q→q):=by
 cases r0 with
 | none=>simp [frz] at hf
 | some r1=>
  refine ⟨r1,rfl,?_⟩
  unfold frz at hf
  simp only [] at hf
  split at hf
  · split at hf
    · cases hf;exact ⟨rfl,fun h=>h⟩
    · split at hf
      · split at hf
        · cases hf;exact ⟨rfl,fun h=>zgP h⟩
        · cases hf
      · cases hf
  · cases hf;exact ⟨rfl,fun h=>h⟩
theorem ev_frz {r1 r:R} (hf:frz own o (some r1)=some r) (hz:FzOk own C) (hc:∀ q,r.cs=some q→q) (G:Good P N C h ρ F M g a o w r1):Good P N C h ρ F M g a o w r:=by
 unfold frz at hf
 simp only [] at hf
 split at hf
 · rename_i d hd
   split at hf
   · cases hf;exact G
   · rename_i hin
     have hbor:∀ b,¬ C.bor b:=by
      rcases hz with hz|hz
      · rw [zlG hz] at hin;cases hin
      · exact hz
     split at hf
     · rename_i id n id' ty sz n' e hv hwr hrq
       split at hf
       · rename_i hb
         have:=Nat.eq_of_beq_eq_true hb
         subst this
         cases hf
         have hn:n=n':=by
          exact zhV hc _ rfl
         subst hn
         obtain ⟨x,w',h1,ρ1,g1,g2,g3⟩:=G
         rw [hwr,zmY] at g2
         rw [hv] at g3
         obtain ⟨h2,ρ2,v,f1,f2,f3⟩:=InvH.frz g2 hbor (zaf _ _ _)
         have hxv:x=v:=by
          cases g3 with
          | buf _ _ _ n2 sz2 _ v' hb2 hle h3 he=>rw [f2] at hb2;cases hb2;exact he rfl
         subst hxv
         refine ⟨x,w',h2,ρ2,g1,?_,f3⟩
         rw [zmY]
         have:upd (upd M id' (some (Blk.buf ty sz n e))) id' (some .dead)=upd M id' (some .dead):=by
          funext j
          by_cases e1:j=id'
          · subst e1;rw [zaf,zaf]
          · rw [zae _ _ e1,zae _ _ e1,zae _ _ e1]
         rw [← this];exact f1
       · cases hf
     · cases hf
 · cases hf;exact G
theorem zhd:∀ {cs:List AV} {l:List Int},zjq cs=some l→l.length=cs.length∧∀ i,i<l.length→cs[i]? = some (.int .i64 (l.getD i 0))
 | [],l,h=>by simp only [zjq] at h;cases h;exact ⟨rfl,fun i hi=>by simp at hi⟩
 | c::cs,l,h=>by
  cases c with
  | int k n=>
   cases k <;> simp only [zjq] at h <;> (try (cases h;done))
   split at h
   · rename_i l' hl'
     cases h
     obtain ⟨h1,h2⟩:=zhd hl'
     refine ⟨by simp [h1],fun i hi=>?_⟩
     cases i with
     | zero=>simp
     | succ i=>have:=h2 i (by simpa using hi);simpa using this
   · cases h
  | _=>simp [zjq] at h
theorem zk7:∀ {n:Nat} {cs:List AV},n≤cs.length→zdJ n cs=some (cs.drop n)
 | 0,cs,_=>by simp [zdJ]
 | n+1,[],h=>by simp at h
 | n+1,x::cs,h=>by simp only [zdJ];rw [zk7 (by simpa using h)];simp
theorem zje {T:TyD} (hT:T.d = .int .i64) {cs:List AV} {off:Nat} {c:AV} (h:cs[off]? = some c):zdy T (cs.drop off)=some c:=by
 obtain ⟨hlt,hc⟩:=List.getElem?_eq_some_iff.1 h
 unfold zdy
 rw [hT,List.drop_eq_getElem_cons hlt,hc]
 rfl
theorem zqm (hΓ:zbC P Γ) (I:InvH N C h ρ F M g a w) {t:TypeId} {x:Operand} (ho:o.op = .load t x) {T:TyD} (hT:tyOf Γ t=some T) {p:AV} (hp:Rel h ρ p (a.eval x)) {r:R}
 (hr:zmN mg T p=some r) (hm:∀ id,id∈r.rd→M id=mg id) (hc:∀ q,r.cs=some q→q):Good P N C h ρ F M g a o w r:=by
 unfold zmN at hr
 split at hr
 · rename_i hd
   split at hr
   · rename_i id off
     split at hr
     · rename_i cs hg
       split at hr
       · rename_i l hl
         cases hr
         obtain ⟨h1,h2⟩:=zhd hl
         have hlt:off<l.length:=hc _ rfl
         have ht:target mg (.lp id off)=some (cs.drop off,[id],none):=by
          simp only [target,hg];rw [zk7 (by omega)]
         exact zpf (c:=none) hΓ I ho hT hp ht hm nofun (zje hd (h2 off hlt))
       · cases hr
     · cases hr
   · cases hr
 · cases hr
theorem zpg (hΓ:zbC P Γ) (I:InvH N C h ρ F M g a w) {t:TypeId} {x i:Operand} (ho:o.op = .index t x i) {T:TyD} (hT:tyOf Γ t=some T) {n:Nat} {e:TypeId} (hd:T.d = .array n e) {E:TyD} (hE:tyOf Γ e=some E)
 {p q:AV} (hp:Rel h ρ p (a.eval x)) (hq:Rel h ρ q (a.eval i)) {r:R} (hr:zk5 E n p q=some r) (hc:∀ q,r.cs=some q→q):Good P N C h ρ F M g a o w r:=by
 unfold zk5 at hr
 split at hr
 · rename_i cs q' hEd
   split at hr
   rotate_left
   · cases hr
   rename_i hbs
   split at hr
   · rename_i l hl
     cases hr
     obtain ⟨h1,h2⟩:=zhd hl
     obtain ⟨c1,c2,c3⟩:=hc _ rfl
     have hsz:E.size=1:=Nat.eq_of_beq_eq_true hbs
     have hdr:zdJ (q'.toNat * E.size) cs=some (cs.drop (q'.toNat * E.size)):=zk7 (by rw [hsz];omega)
     have hof:zdy E (cs.drop (q'.toNat * E.size))=some (.int .i64 (l.getD q'.toNat 0)):=by rw [hsz,Nat.mul_one];exact zje hEd (h2 _ c3)
     exact znB hΓ I ho hT hd hE hp hq hdr hof ⟨c1,c2⟩
   · cases hr
 · cases hr
theorem zql (hΓ:zbC P Γ) (I:InvH N C h ρ F M g a w) {t:TypeId} {x:Operand} (ho:o.op = .range t x) {m:AV} (hp:Rel h ρ m (a.eval x)) {r:R} (hr:zmM Γ mg o t m=some r) (hm:∀ id,id∈r.rd→M id=mg id):Good P N C h ρ F M g a o w r:=by
 unfold zmM at hr
 split at hr
 · rename_i T hT
   split at hr
   · rename_i kt et hd
     split at hr
     · rename_i KT hK
       split at hr
       · rename_i hKd
         split at hr
         · rename_i z dom e n
           split at hr
           · rename_i d hf
             cases hr
             generalize he:a.eval x=u at hp
             cases hp with
             | romN _ _ _ _ hdom hz0=>
              have hdn:=(hm d (by simp)).trans (zcM hf).2
              have I':=I.zeZ hdn (.mapIter none 0 #[] 0) (.blk w.heap.size) (.iter e none (fun l=>l.Nodup∧l.length=0∧∀ k,dom k=true↔k∈l)) (fun b hb=>(Option.some.inj hb).symm)
               ⟨w.heap.size,none,0,0,[],#[],[],zaf _ _ _,heap_alloc_new w _,⟨fun _ h=>(by cases h),fun _=>rfl⟩,by simp,by simp,Nat.le_refl _,rfl,⟨List.nodup_nil,rfl,fun k=>by simp [hdom k]⟩,by simp,fun k hk=>by cases hk⟩
              refine ⟨.pointer (some ⟨w.heap.size,0,none⟩),_,_,_,.inl ?_,I',.lp _ _ _ _ (zaf _ _ _)⟩
              have hund:=(hΓ t T hT).zhY hd
              have hrun:=run_range_nilMap (P:=P) w t kt et hund
              unfold execOp
              simp only [ho,he,hrun,Sem.run_bind,Result.andThen_ok,Sem.run_pure]
             | rom _ _ _ _ _ rb es clock ks hR hks hlen hel hk hborn hbd hdom hz hcc=>
             have hdn:=(hm d (by simp)).trans (zcM hf).2
             have hkeys:es.map (·.key)=ks.map (fun k=>Value.int .i64 k):=by
              refine List.ext_getElem? (fun i=>?_)
              rw [List.getElem?_map,List.getElem?_map]
              cases hi:ks[i]? with
              | none=>
               have:ks.length≤i:=List.getElem?_eq_none_iff.1 hi
               rw [List.getElem?_eq_none (by omega)];rfl
              | some k=>
               have hlt:i<ks.length:=(List.getElem?_eq_some_iff.1 hi).1
               have h2:es[i]? = some es[i]:=List.getElem?_eq_getElem (by omega)
               rw [h2]
               have:=hk i k _ hi h2
               simp [this]
             have hleft:leftOf es.toArray #[]=es.toArray:=by
              unfold leftOf
              exact Array.filter_eq_self.2 (fun x _=>by simp)
             have I':=I.zeZ hdn (.mapIter (some rb) clock #[] clock) (.blk w.heap.size) (.iter e none (fun l=>l.Nodup∧l.length=n∧∀ k,dom k=true↔k∈l)) (fun b hb=>(Option.some.inj hb).symm)
              ⟨w.heap.size,some rb,clock,clock,es,#[],ks,zaf _ _ _,heap_alloc_new w _,⟨fun bm hb=>by cases hb;exact hR,fun hb=>by cases hb⟩,hborn,hbd,Nat.le_refl _,by rw [hleft];exact hkeys,⟨hks,hlen,hdom⟩,fun x hx=>by
               obtain ⟨i,hi,rfl⟩:=List.getElem_of_mem hx
               have hik:i<ks.length:=by omega
               exact ⟨ks[i],hk i _ _ (List.getElem?_eq_getElem hik) (List.getElem?_eq_getElem hi),hcc i _ _ (List.getElem?_eq_getElem hik) (List.getElem?_eq_getElem hi)⟩,fun k hk=>by cases hk⟩
             refine ⟨.pointer (some ⟨w.heap.size,0,none⟩),_,_,_,.inl ?_,I',.lp _ _ _ _ (zaf _ _ _)⟩
             have hund:=(hΓ t T hT).zhY hd
             have hrun:=run_range_map (P:=P) w t kt et rb es.toArray clock hund (I.hp _ _ hR)
             unfold execOp
             simp only [ho,he,hrun,Sem.run_bind,Result.andThen_ok,Sem.run_pure]
           · cases hr
         · cases hr
       · cases hr
     · cases hr
   · cases hr
 · cases hr
theorem zqo (I:InvH N C h ρ F M g a w) {x:Operand} (ho:o.op = .entry x) {m:AV} (hp:Rel h ρ m (a.eval x)) {r:R} (hr:zmO mg m=some r) (hm:∀ id,id∈r.rd→M id=mg id):Good P N C h ρ F M g a o w r:=by
 unfold zmO at hr
 split at hr
 · rename_i id
   split at hr
   · rename_i e k Pl hg
     cases hr
     obtain ⟨b,bmo,clock,c0,es,seen,left,q1,q2,q3,q4,q5,q6,q7,q8,q9,q10⟩:=I.blk id _ ((hm id (by simp)).trans hg)
     obtain ⟨rfl,y,s,z1,z2,rfl⟩:=q10 k rfl
     cases bmo with
     | none=>rw [q3.2 rfl] at z1;cases z1
     | some bm=>
     obtain ⟨k',z3,z4⟩:=q9 y z1
     rw [z2] at z3;cases z3
     generalize he:a.eval x=u at hp
     cases hp with
     | lp _ _ _ b' hb=>
     rw [q1] at hb;cases hb
     have hrun:=run_entry_at (P:=P) w b bm c0 s es.toArray c0 y q2 (I.hp _ _ (q3.1 bm rfl)) (by simpa using z1) (by simpa using q5)
     refine Good.same I (x:=.tuple #[y.key,y.val]) (.inl ?_) rfl ?_
     · unfold execOp
       simp only [ho,he,hrun,Sem.run_bind,Result.andThen_ok,Sem.run_pure]
     · rw [z2]
       refine .tup _ _ [_,_] rfl (fun i c v h1 h2=>?_)
       match i,h1,h2 with
       | 0,h1,h2=>cases h1;cases h2;exact .int _ _ _
       | 1,h1,h2=>cases h1;cases h2;exact z4.closed
       | i+2,h1,h2=>simp at h1
   · cases hr
 · cases hr
theorem zl2 (hΓ:zbC P Γ) (hdep:8≤P.depth) (I:InvH N C h ρ F M g a w) {val:Operand→AV} (hv:∀ y,y∈o.op.operands→Rel h ρ (val y) (a.eval y)) {rv:Option RV} {r:R}
 (hr:evalOp Γ own val mg o rv=some r) (hm:∀ id,id∈r.rd→M id=mg id) (hc:∀ q,r.cs=some q→q) (hcall:ziz o.op=false) (hz:FzOk own C):Good P N C h ρ F M g a o w r:=by
 unfold evalOp at hr
 cases ho:o.op <;> simp only [ho] at hr <;> (try (cases hr;done))
 case move x=>cases hr;exact Good.same I (.inl (run_move (.inl ho))) rfl (hv x (by rw [ho];simp [Op.operands]))
 case assign x=>cases hr;exact Good.same I (.inl (run_move (.inr ho))) rfl (hv x (by rw [ho];simp [Op.operands]))
 case pick c x y=>
  have hcr:=hv c (by rw [ho];simp [Op.operands])
  have hxr:=hv x (by rw [ho];simp [Op.operands])
  have hyr:=hv y (by rw [ho];simp [Op.operands])
  unfold zqJ at hr
  split at hr
  · rename_i p hp
    rw [hp] at hcr
    split at hr
    · rename_i u v hu hv'
      cases hr
      rw [hu] at hxr;rw [hv'] at hyr
      refine Good.same I (x:=.bool (bif p then u else v)) (.inl ?_) rfl (.bool _ _)
      generalize hec:a.eval c=zc at hcr;generalize hex:a.eval x=zx at hxr;generalize hey:a.eval y=zy at hyr
      cases hcr;cases hxr;cases hyr
      unfold execOp
      simp only [ho,hec,hex,hey]
      cases p <;> rfl
    · rename_i u v hu hv'
      cases hr
      rw [hu] at hxr;rw [hv'] at hyr
      refine Good.same I (x:=.int .i64 (bif p then u else v)) (.inl ?_) rfl (.int _ _ _)
      generalize hec:a.eval c=zc at hcr;generalize hex:a.eval x=zx at hxr;generalize hey:a.eval y=zy at hyr
      cases hcr;cases hxr;cases hyr
      unfold execOp
      simp only [ho,hec,hex,hey]
      cases p <;> rfl
    · cases hr
  · cases hr
 case alloc t=>
  cases hT:tyOf Γ t with
  | none=>simp [hT] at hr
  | some T=>
  simp only [hT] at hr
  cases hf:fresh mg o with
  | none=>simp [hf] at hr
  | some d=>
  simp only [hf] at hr
  cases hr
  exact zqq hΓ I ho hT ((hm d (by simp)).trans (zcM hf).2)
 case box t x=>
  cases hcs:zgl (val x) with
  | none=>simp [hcs] at hr
  | some cs=>
  simp only [hcs] at hr
  cases hf:fresh mg o with
  | none=>simp [hf] at hr
  | some d=>
  simp only [hf] at hr
  cases hr
  exact ev_box I ho (hv x (by rw [ho];simp [Op.operands])) hcs ((hm d (by simp)).trans (zcM hf).2)
 case build t ps=>
  cases hT:tyOf Γ t with
  | none=>simp [hT] at hr
  | some T=>
  simp only [hT] at hr
  cases hd:T.d <;> simp only [hd] at hr <;> (try (cases hr;done))
  case struct fs=>
   split at hr
   · rename_i cs hl;cases hr;exact zjx hΓ I ho hT hd hv hl
   · cases hr
  case array n e=>
   cases hE:tyOf Γ e with
   | none=>simp [hE] at hr
   | some E=>
   simp only [hE] at hr
   split at hr
   · rename_i cs hl;cases hr;exact zjP hΓ I ho hT hd hE hv hl
   · cases hr
 case buildSlice t n ps=>
  cases hT:tyOf Γ t with
  | none=>simp [hT] at hr
  | some T=>
  simp only [hT] at hr
  cases hd:T.d <;> simp only [hd] at hr <;> (try (cases hr;done))
  rename_i e
  cases hE:tyOf Γ e with
  | none=>simp [hE] at hr
  | some E=>
  simp only [hE] at hr
  cases hle:Nat.ble (n * E.size) 16777216 with
  | false=>simp [hle] at hr
  | true=>
  simp only [hle] at hr
  split at hr
  · rename_i cs hl
    split at hr
    · rename_i hvc
      split at hr
      · rename_i hsi
        split at hr
        · rename_i d hd'
          split at hr
          · split at hr
            · rename_i hmd
              split at hr
              · rename_i hnle
                cases hr
                exact zih hΓ I ho hT hd hE (Nat.le_of_ble_eq_true hle) (Nat.le_of_ble_eq_true hnle) hv hl hvc hsi ((hm d (by simp)).trans hmd)
              · cases hr
            · cases hr
          · split at hr
            · rename_i hnle
              cases hr
              exact ziE hΓ I ho hT hd hE (Nat.le_of_ble_eq_true hle) hv hl hvc hsi (Nat.le_of_ble_eq_true hnle)
            · cases hr
        · cases hr
      · cases hr
    · cases hr
  · cases hr
 case load t p=>
  cases hT:tyOf Γ t with
  | none=>simp [hT] at hr
  | some T=>
  simp only [hT] at hr
  cases hvr:isVar own o with
  | true=>
   simp only [hvr] at hr
   exact zqm hΓ I ho hT (hv p (by rw [ho];simp [Op.operands])) hr hm hc
  | false=>
  simp only [hvr] at hr
  split at hr
  · rename_i cs rd c ht
    split at hr
    · rename_i v hv'
      cases hr
      exact zpf hΓ I ho hT (hv p (by rw [ho];simp [Op.operands])) ht hm hc hv'
    · cases hr
  · cases hr
 case range t x=>exact zql hΓ I ho (hv x (by rw [ho];simp [Op.operands])) hr hm
 case entry x=>exact zqo I ho (hv x (by rw [ho];simp [Op.operands])) hr hm
 case store t p x=>
  cases hT:tyOf Γ t with
  | none=>simp [hT] at hr
  | some T=>
  simp only [hT] at hr
  cases hcs:zgl (val x) with
  | none=>simp [hcs] at hr
  | some xs=>
  simp only [hcs] at hr
  cases xs with
  | nil=>simp at hr
  | cons x0 xs=>
  simp only [] at hr
  cases hb:Nat.beq (x0::xs).length T.size with
  | false=>simp only [hb] at hr;cases hr
  | true=>
  simp only [hb] at hr
  have hl:=Nat.eq_of_beq_eq_true hb
  have hp:=hv p (by rw [ho];simp [Op.operands])
  have hx:=hv x (by rw [ho];simp [Op.operands])
  cases hvp:val p <;> simp only [hvp] at hr <;> (try (cases hr;done))
  case lp id off=>
   rw [hvp] at hp
   cases hg:mg id with
   | none=>simp [hg] at hr
   | some bl=>
   cases bl <;> simp only [hg] at hr <;> (try (cases hr;done))
   rename_i cs
   split at hr
   · rename_i cs' hlay
     cases hr
     exact zmI hΓ I ho hT hx hcs hl hp ((hm id (by simp)).trans hg) hlay (by simp)
   · cases hr
  case ep id n i off=>
   rw [hvp] at hp
   cases hg:mg id with
   | none=>simp [hg] at hr
   | some bl=>
   cases bl <;> simp only [hg] at hr <;> (try (cases hr;done))
   rename_i ty sz n' e
   split at hr
   · rename_i hvc
     split at hr
     · rename_i es hlay
       cases hr
       exact zmJ hΓ I ho hT hx hcs hl hvc hp ((hm id (by simp)).trans hg) hlay (by simp) (hc _ rfl)
     · cases hr
   · cases hr
 case nilCheck x=>
  have hx:=hv x (by rw [ho];simp [Op.operands])
  have key:∀ ad,a.eval x = .pointer (some ad)→(execOp a.eval o).run P w = .ok (.value (a.eval x)) w:=fun ad he=>by
   unfold execOp
   simp only [ho,he,Sem.run_pure]
  cases hvx:val x <;> simp only [hvx] at hr <;> (try (cases hr;done)) <;> rw [hvx] at hx <;> cases hr
  case rp cs=>
   obtain ⟨ad,he⟩:∃ ad,a.eval x = .pointer (some ad):=by generalize a.eval x=v at hx;cases hx;exact ⟨_,rfl⟩
   exact Good.same I (.inl (key ad he)) rfl hx
  case po b cs=>
   have hb:b=true:=hc _ rfl
   subst hb
   have hx':Rel h ρ (.rp cs) (a.eval x):=by generalize a.eval x=v at hx;cases hx with|po _ _ _ _ ht _=>exact ht rfl
   obtain ⟨ad,he⟩:∃ ad,a.eval x = .pointer (some ad):=by generalize a.eval x=v at hx';cases hx';exact ⟨_,rfl⟩
   exact Good.same (r:=.zcF (.rp cs) (true=true)) I (.inl (key ad he)) rfl hx'
  case lp id off=>
   obtain ⟨ad,he⟩:∃ ad,a.eval x = .pointer (some ad):=by generalize a.eval x=v at hx;cases hx;exact ⟨_,rfl⟩
   exact Good.same I (.inl (key ad he)) rfl hx
  case ep id n i off=>
   obtain ⟨ad,he⟩:∃ ad,a.eval x = .pointer (some ad):=by
    generalize a.eval x=v at hx
    cases hx with
    | ep _ _ _ _ _ _ _ _ _ _ _ h1 _=>exact h1
   exact Good.same I (.inl (key ad he)) rfl hx
  case ge id i k j off=>
   obtain ⟨ad,he⟩:∃ ad,a.eval x = .pointer (some ad):=by
    generalize a.eval x=v at hx
    cases hx with
    | ge _ _ _ _ _ _ _ _ _ h1 _=>exact h1
   exact Good.same I (.inl (key ad he)) rfl hx
 case binOp op t x y yt=>
  cases hwr:isWrap own o with
  | true=>
   simp only [hwr] at hr
   have hx:=hv x (by rw [ho];simp [Op.operands])
   have hy:=hv y (by rw [ho];simp [Op.operands])
   unfold zqI at hr
   split at hr
   · rename_i p q hp hq
     rw [hp] at hx;rw [hq] at hy
     generalize hex:a.eval x=v at hx
     generalize hey:a.eval y=u at hy
     cases hx;cases hy
     have hg:∀ op',(eqGuard op' t x y (.int .i64 p) (.int .i64 q)).run P w = .ok () w:=fun op'=>by rw [eqGuard_at_int];rfl
     split at hr
     · cases hr
       refine Good.same I (x:=.int .i64 (zku (p+q))) (.inl ?_) rfl (.int _ _ _)
       unfold execOp
       simp only [ho,hex,hey,Sem.run_bind,hg,Result.andThen_ok,binOp_add,Op.intArith,Sem.run_pure,zgw]
     · cases hr
       refine Good.same I (x:=.int .i64 (zku (p - q))) (.inl ?_) rfl (.int _ _ _)
       unfold execOp
       simp only [ho,hex,hey,Sem.run_bind,hg,Result.andThen_ok,binOp_sub,Op.intArith,Sem.run_pure,zgw]
     · cases hr
       refine Good.same I (x:=.int .i64 (zku (p * q))) (.inl ?_) rfl (.int _ _ _)
       unfold execOp
       simp only [ho,hex,hey,Sem.run_bind,hg,Result.andThen_ok,binOp_mul,Op.intArith,Sem.run_pure,zgw]
     · cases hr
       refine Good.same I (x:=.int .i64 (andI p q)) (.inl ?_) rfl (.int _ _ _)
       unfold execOp
       simp only [ho,hex,hey,Sem.run_bind,hg,Result.andThen_ok,binOp_and,Op.intBits,Sem.run_pure,zgw]
       rfl
     · cases hr
   · cases hr
  | false=>
  simp only [hwr] at hr
  obtain ⟨h1,z,⟨h2,h3⟩,h4⟩:=zmQ hΓ hdep hr hc (hv x (by rw [ho];simp [Op.operands])) (hv y (by rw [ho];simp [Op.operands])) x y w
  refine Good.same I (.inl ?_) h1 h4
  unfold execOp
  simp only [ho,Sem.run_bind,h2,h3,Result.andThen_ok,Sem.run_pure]
 case unOp op t x=>
  have hx:=hv x (by rw [ho];simp [Op.operands])
  generalize hvx:val x=vx at hr hx
  cases op <;> (try simp only [] at hr) <;> (try (cases hr;done))
  case not=>
   cases vx <;> (try simp only [] at hr) <;> (try (cases hr;done))
   rename_i b
   cases hr
   refine Good.same I (x:=.bool (!b)) (.inl ?_) rfl (.bool _ _)
   generalize he:a.eval x=v at hx
   cases hx
   unfold execOp
   simp only [ho,he,Op.unary,Sem.run_bind,Sem.run_pure,Result.andThen_ok]
  case neg=>
   cases vx <;> (try simp only [] at hr) <;> (try (cases hr;done))
   rename_i k n
   cases k <;> (try simp only [] at hr) <;> (try (cases hr;done))
   cases hr
   have hin:inI (0 - n):=hc _ rfl
   refine Good.same I (x:=.int .i64 (0 - n)) (.inl ?_) rfl (.int _ _ _)
   generalize he:a.eval x=v at hx
   cases hx
   unfold execOp
   simp only [ho,he,Op.unary,Op.intArith,Sem.run_bind,Sem.run_pure,Result.andThen_ok,zd3 hin]
 case convert s t x=>
  have hx:=hv x (by rw [ho];simp [Op.operands])
  split at hr
  · rename_i S T hS hT
    split at hr
    · rename_i n hs ht hvx
      cases hr
      rw [hvx] at hx
      have hin:inI n:=hc _ rfl
      refine Good.same I (x:=.int .i64 n) (.inl ?_) rfl (.int _ _ _)
      generalize he:a.eval x=v at hx
      cases hx
      have hus:=(hΓ s S hS).ze0 hs
      have hut:=(hΓ t T hT).ze0 ht
      unfold execOp
      simp only [ho,he,convert,Conv.intToInt,Sem.run_bind,run_underlying hus,run_underlying hut,Sem.run_pure,Result.andThen_ok,zd3 hin]
    · rename_i n hs ht hvx
      cases hr
      rw [hvx] at hx
      have hin:inU n:=hc _ rfl
      refine Good.same I (x:=.int .u64 n) (.inl ?_) rfl (.int _ _ _)
      generalize he:a.eval x=v at hx
      cases hx
      have hus:=(hΓ s S hS).ze0 hs
      have hut:=(hΓ t T hT).ze0 ht
      unfold execOp
      simp only [ho,he,convert,Conv.intToInt,Sem.run_bind,run_underlying hus,run_underlying hut,Sem.run_pure,Result.andThen_ok,ziM hin]
    · rename_i n hs ht hvx
      cases hr
      rw [hvx] at hx
      have hin:inI n:=hc _ rfl
      refine Good.same I (x:=.int .i64 n) (.inl ?_) rfl (.int _ _ _)
      generalize he:a.eval x=v at hx
      cases hx
      have hus:=(hΓ s S hS).ze0 hs
      have hut:=(hΓ t T hT).ze0 ht
      unfold execOp
      simp only [ho,he,convert,Conv.intToInt,Sem.run_bind,run_underlying hus,run_underlying hut,Sem.run_pure,Result.andThen_ok,zd3 hin]
    · cases hr
  · cases hr
 case makeInterface t x=>
  cases hT:tyOf Γ t with
  | none=>simp [hT] at hr
  | some T=>
  simp only [hT] at hr
  have hr':r=R.val (.ifc t (val x))∧(∀ ms,P.underlying t≠some (.interface ms)):=by
   obtain ⟨d,h1,h2⟩:=(hΓ t T hT).desc
   cases hd:T.d <;> rw [hd] at hr h2 <;> simp only [DsOk] at h2 <;> (try (cases hr;done)) <;> cases hr <;> refine ⟨rfl,fun ms hms=>?_⟩ <;> rw [h1] at hms <;> cases hms
   all_goals first|(cases h2;done)|(obtain ⟨_,h2,_⟩:=h2;cases h2;done)|(obtain ⟨_,_,_,h2⟩:=h2;cases h2;done)|exact h2.2.2 _ rfl
  obtain ⟨rfl,hni⟩:=hr'
  refine Good.same I (x:=.iface t (a.eval x)) (.inl ?_) rfl (.ifc _ _ _ _ (hv x (by rw [ho];simp [Op.operands])))
  obtain ⟨d,h1,_⟩:=(hΓ t T hT).desc
  unfold execOp
  simp only [ho,Instr.makeInterface,Sem.run_bind,run_underlying h1,Result.andThen_ok]
  cases d <;> first|rfl|exact absurd h1 (hni _)
 case makeFunc f fs cs=>
  cases hr
  have h1:=zee fs.toList (fun x hx=>hv x (by rw [ho];simp only [Op.operands];exact Array.mem_append.2 (.inl (by simpa using hx))))
  have h2:=zee cs.toList (fun x hx=>hv x (by rw [ho];simp only [Op.operands];exact Array.mem_append.2 (.inr (by simpa using hx))))
  refine Good.same I (x:=.func f (fs.toList.map a.eval).toArray (cs.toList.map a.eval).toArray) (.inl ?_) rfl (.fn _ _ _ _ _ _ h1.1 h2.1 h1.2 h2.2)
  unfold execOp
  have e1:fs.map a.eval=(fs.toList.map a.eval).toArray:=by apply Array.ext';simp
  have e2:cs.map a.eval=(cs.toList.map a.eval).toArray:=by apply Array.ext';simp
  simp only [ho,Instr.makeFunc,e1,e2]
  rfl
 case makeMap t rs=>
  cases rs with
  | some _=>simp at hr
  | none=>
  simp only [] at hr
  cases hT:tyOf Γ t with
  | none=>simp [hT] at hr
  | some T=>
  simp only [hT] at hr
  cases hd:T.d <;> simp only [hd] at hr <;> (try (cases hr;done))
  rename_i k e
  cases hE:tyOf Γ e with
  | none=>simp [hE] at hr
  | some E=>
  simp only [hE] at hr
  cases hf:fresh mg o with
  | none=>simp [hf] at hr
  | some d=>
  simp only [hf] at hr
  split at hr
  · cases hEd:E.d <;> simp only [hEd] at hr <;> (try (cases hr;done))
    rename_i ty
    cases hX:tyOf Γ ty with
    | none=>simp [hX] at hr
    | some X=>
    simp only [hX] at hr
    cases hr
    have hdn:=(hm d (by simp)).trans (zcM hf).2
    have I':=I.zeZ hdn (.map #[] 0) (.rows (some w.heap.size) (fun _=>none)) (.gmap ty X.size 0 (fun _=>false) (fun _=>0) (fun _ _=>[]) none) (fun b hb=>hb.elim (fun e=>(Option.some.inj e).symm) (fun ⟨_,_,_,e,_⟩=>by cases e))
     ⟨w.heap.size,[],0,[],fun _=>none,zaf _ _ _,heap_alloc_new w _,by simp,rfl,rfl,by simp,by simp,by simp,by simp,by simp,by simp,by simp,⟨fun _ _ _ h=>(by cases h),fun _ _ _ _ _ _ _ h=>(by cases h)⟩⟩
    refine ⟨.map (some w.heap.size),_,_,_,.inl ?_,I',.mp _ _ _ _ (zaf _ _ _) rfl⟩
    unfold execOp
    simp [ho,Instr.makeMap]
  · cases hr
    have hdn:=(hm d (by simp)).trans (zcM hf).2
    have I':=I.zeZ hdn (.map #[] 0) (.blk w.heap.size) (.map E.zeroV (fun _=>false) (fun _=>zjL E) 0) (fun b hb=>(Option.some.inj hb).symm)
     ⟨w.heap.size,[],0,[],zaf _ _ _,heap_alloc_new w _,by simp,rfl,rfl,by simp,by simp,by simp,by simp,fun k _=>Rel.zjL (hΓ e E hE) h ρ0,by simp⟩
    refine ⟨.map (some w.heap.size),_,_,_,.inl ?_,I',.mp _ _ _ _ (zaf _ _ _) rfl⟩
    unfold execOp
    simp [ho,Instr.makeMap]
 case makeSlice t l c=>
  cases hT:tyOf Γ t with
  | none=>simp [hT] at hr
  | some T=>
  simp only [hT] at hr
  cases hd:T.d <;> simp only [hd] at hr <;> (try (cases hr;done))
  rename_i e
  cases hE:tyOf Γ e with
  | none=>simp [hE] at hr
  | some E=>
  simp only [hE] at hr
  split at hr
  · rename_i n m hvl hvc
    cases hf:fresh mg o with
    | none=>simp [hf] at hr
    | some d=>
    simp only [hf] at hr
    cases hr
    exact zl5 hΓ I ho hT hd hE (hvl▸hv l (by rw [ho];simp [Op.operands])) (hvc▸hv c (by rw [ho];simp [Op.operands])) ((hm d (by simp)).trans (zcM hf).2) (hc _ rfl) (ziQ (hc _ rfl).2.2)
  · cases hr
 case slice t x lo hi mx=>
  split at hr
  · rename_i id n hvx
    exact zpc hΓ I ho hv hvx hr hm hc
  · cases mx with
    | some m=>exact zpd hΓ I ho hv hr hc
    | none=>exact zqk hΓ I ho hv hr hc
 case fieldAddr t p k=>
  cases hT:tyOf Γ t with
  | none=>simp [hT] at hr
  | some T=>
  simp only [hT] at hr
  cases hd:T.d <;> simp only [hd] at hr <;> (try (cases hr;done))
  rename_i fs
  split at hr
  · rename_i off ft hn
    split at hr
    · rename_i FT hFT
      split at hr
      · cases hr
      · rename_i hs
        split at hr
        · rename_i v hv'
          cases hr
          exact zl6 hΓ I ho hT hd hn hFT (by omega) (hv p (by rw [ho];simp [Op.operands])) hv'
        · cases hr
    · cases hr
  · cases hr
 case field t x k=>
  cases hT:tyOf Γ t with
  | none=>simp [hT] at hr
  | some T=>
  simp only [hT] at hr
  cases hd:T.d <;> simp only [hd] at hr <;> (try (cases hr;done))
  rename_i fs
  split at hr
  · rename_i off ft hn
    split at hr
    · rename_i FT hFT
      split at hr
      · rename_i cs hvx
        split at hr
        · rename_i q hq
          split at hr
          · rename_i v hv'
            cases hr
            exact zqn hΓ I ho hT hd hn hFT (hvx▸hv x (by rw [ho];simp [Op.operands])) hq hv'
          · cases hr
        · cases hr
      · cases hr
    · cases hr
  · cases hr
 case indexAddr t x i=>
  have hx:=hv x (by rw [ho];simp [Op.operands])
  have hi:=hv i (by rw [ho];simp [Op.operands])
  unfold zjy at hr
  cases hT:tyOf Γ t with
  | none=>simp [hT] at hr
  | some T=>
  simp only [hT] at hr
  cases hvi:val i <;> simp only [hvi] at hr <;> (try (cases hr;done))
  rename_i kk q
  cases kk <;> (try simp only [] at hr) <;> (try (cases hr;done))
  rw [hvi] at hi
  cases hd:T.d <;> simp only [hd] at hr <;> (try (cases hr;done))
  case slice e=>
   cases hE:tyOf Γ e with
   | none=>simp [hE] at hr
   | some E=>
   simp only [hE] at hr
   cases hvx:val x <;> simp only [hvx] at hr <;> (try (cases hr;done)) <;> rw [hvx] at hx
   case ro sz n el=>
    split at hr
    · rename_i hb
      split at hr
      · rename_i cs hsp
        cases hr
        have:=zm4 hsp
        subst this
        exact zjw hΓ I ho hT hd hE hx (Nat.eq_of_beq_eq_true hb) hi (hc _ rfl)
      · cases hr
    · cases hr
   case buf id n=>
    cases hg:mg id with
    | none=>simp [hg] at hr
    | some bl=>
    cases bl <;> simp only [hg] at hr <;> (try (cases hr;done))
    rename_i ty sz n' el
    split at hr
    · rename_i hb
      cases hr
      exact ziD hΓ I ho hT hd hE hx ((hm id (by simp)).trans hg) (Nat.eq_of_beq_eq_true hb) hi (hc _ rfl)
    · cases hr
   case sb id n a0 b0=>
    cases hg:mg id with
    | none=>simp [hg] at hr
    | some bl=>
    cases bl <;> simp only [hg] at hr <;> (try (cases hr;done))
    split at hr
    · rename_i hb
      cases hr
      exact zjv hΓ I ho hT hd hE hx ((hm id (by simp)).trans hg) (Nat.eq_of_beq_eq_true hb) hi (hc _ rfl)
    · cases hr
  case array n e=>
   cases hE:tyOf Γ e with
   | none=>simp [hE] at hr
   | some E=>
   simp only [hE] at hr
   split at hr
   · rename_i p hp
     cases hr
     exact zhJ hΓ I ho hT hd hE hx hi hp (hc _ rfl)
   · cases hr
 case index t x i=>
  cases hT:tyOf Γ t with
  | none=>simp [hT] at hr
  | some T=>
  simp only [hT] at hr
  cases hd:T.d <;> simp only [hd] at hr <;> (try (cases hr;done))
  rename_i n e
  cases hE:tyOf Γ e with
  | none=>simp [hE] at hr
  | some E=>
  simp only [hE] at hr
  cases hvr:isVar own o with
  | true=>
   simp only [hvr] at hr
   exact zpg hΓ I ho hT hd hE (hv x (by rw [ho];simp [Op.operands])) (hv i (by rw [ho];simp [Op.operands])) hr hc
  | false=>
  simp only [hvr] at hr
  split at hr
  · rename_i cs q hvx hvi
    split at hr
    · rename_i rr hrr
      split at hr
      · rename_i v hv'
        cases hr
        exact znB hΓ I ho hT hd hE (hvx▸hv x (by rw [ho];simp [Op.operands])) (hvi▸hv i (by rw [ho];simp [Op.operands])) hrr hv' (hc _ rfl)
      · cases hr
    · cases hr
  · cases hr
 case lookup t m k ok=>exact zpe hΓ I ho (hv m (by rw [ho];simp [Op.operands])) (hv k (by rw [ho];simp [Op.operands])) hr hm hc
 case mapUpdate t m k x=>exact zl4 hΓ I (.inl ho) (hv m (by rw [ho];simp [Op.operands])) (hv k (by rw [ho];simp [Op.operands])) (hv x (by rw [ho];simp [Op.operands])) hr hm hc
 case insert t m k x=>exact zl4 hΓ I (.inr ho) (hv m (by rw [ho];simp [Op.operands])) (hv k (by rw [ho];simp [Op.operands])) (hv x (by rw [ho];simp [Op.operands])) hr hm hc
 case extract t i=>
  have hx:=hv t (by rw [ho];simp [Op.operands])
  split at hr
  · rename_i vs hvx
    rw [hvx] at hx
    split at hr
    · rename_i v hn
      cases hr
      generalize he:a.eval t=u at hx
      cases hx with
      | tup _ _ us hl hcc=>
       obtain ⟨z,hz,hrel⟩:=RelL.get ⟨hl,hcc⟩ (zfA hn)
       refine Good.same I (.inl ?_) rfl hrel
       unfold execOp
       simp [ho,he,Instr.extract,hz]
    · cases hr
  · cases hr
 case call c=>
  obtain ⟨callee,args,ts⟩:=c
  cases callee with
  | value f=>rw [ho] at hcall;simp [ziz] at hcall
  | invoke r m=>simp at hr
  | builtin b=>
   have hr':frz own o (zeJ Γ mg o b ts.toList (zfC val args.toList))=some r:=hr
   obtain ⟨r1,e1,e2,e3⟩:=frz_rd hr'
   rw [e1] at hr'
   exact ev_frz hr' hz hc (zn5 hΓ I ho hv e1 (fun id hid=>hm id (e2▸hid)) (e3 hc))
end
end Go.Av
end
/- Calls: what a call is handed; contracts; the call of a Go function. -/
section
set_option linter.all false
namespace Go.Av
theorem za1 {ids:List Nat}:∀ {cs:List AV} {i:Nat} {c:AV},zdh ids cs=true→cs[i]? = some c→zas ids c=true
 | [],i,c,_,h=>by simp at h
 | x::cs,0,c,hc,h=>by
  simp only [zdh] at hc
  split at hc
  · rename_i h1;simp at h;rw [← h];exact h1
  · cases hc
 | x::cs,i+1,c,hc,h=>by
  simp only [zdh] at hc
  simp only [List.getElem?_cons_succ] at h
  split at hc
  · exact za1 hc h
  · cases hc
theorem zaw:∀ {l:List Nat} {t:Nat},zbf l t=true→t∈l
 | k::l,t,h=>by
  unfold zbf at h
  split at h
  · rename_i hb;have:=Nat.eq_of_beq_eq_true hb;subst this;exact List.mem_cons_self ..
  · exact List.mem_cons_of_mem _ (zaw h)
theorem Rel.forget {h:Hp} {ρ ρ':Rho} {ids:List Nat} (hρ:∀ id,id∈ids→ρ' id=ρ id) {a:AV} {v:Value} (H:Rel h ρ a v) (hc:zas ids a=true):Rel h ρ' a v:=by
 obtain ⟨ρ1,he,H'⟩:∃ ρ1,ρ=ρ1∧Rel h ρ1 a v:=⟨ρ,rfl,H⟩
 clear H
 induction H' with
 | any ρ v=>exact .any _ _
 | one _ _ h1=>exact .one _ _ h1
 | nilS=>exact .nilS _
 | nilFn=>exact .nilFn _
 | nilPtr=>exact .nilPtr _
 | nilMap=>exact .nilMap _
 | nilIfc=>exact .nilIfc _
 | bool=>exact .bool _ _
 | int=>exact .int _ _ _
 | agg ρ1 cs vs hl hc' ih=>exact .agg _ _ _ hl fun i c v h1 h2=>ih i c v h1 h2 (za1 (by simpa [zas] using hc) h1) he
 | tup ρ1 cs vs hl hc' ih=>exact .tup _ _ _ hl fun i c v h1 h2=>ih i c v h1 h2 (za1 (by simpa [zas] using hc) h1) he
 | ro ρ1 sz n e a cap hnil hcap hsz hs h1 hc' ih=>exact .ro _ _ _ _ _ _ hnil hcap hsz hs h1 hc'
 | rp ρ1 cs ad hs hc' ih=>exact .rp _ _ _ hs hc'
 | lp ρ1 id off b hb=>subst he;exact .lp _ _ _ _ ((hρ id (zaw (by simpa [zas] using hc))).trans hb)
 | buf ρ1 id n n' sz v v' hb hle h1 hq=>subst he;exact .buf _ _ _ _ _ _ _ ((hρ id (zaw (by simpa [zas] using hc))).trans hb) hle h1 hq
 | ep ρ1 id n i off n' sz v v' hb hle h1 hq=>subst he;exact .ep _ _ _ _ _ _ _ _ _ ((hρ id (zaw (by simpa [zas] using hc))).trans hb) hle h1 hq
 | fn ρ1 f fs cs vs ws hl hm hc' hd ih1 ih2=>
  simp only [zas] at hc
  split at hc
  · rename_i h0
    exact .fn _ _ _ _ _ _ hl hm (fun i c v h1 h2=>ih1 i c v h1 h2 (za1 h0 h1) he) (fun i c v h1 h2=>ih2 i c v h1 h2 (za1 hc h1) he)
  · cases hc
 | clo ρ1 f fs cs v hv ih=>exact .clo _ _ _ _ _ hv
 | mp ρ1 id li b hb hm=>subst he;exact .mp _ _ _ _ ((hρ id (zaw (by simpa [zas] using hc))).trans hb) hm
 | romN ρ1 z dom e hdom hz=>exact .romN _ _ _ _ hdom hz
 | ns ρ1 b a v hv hn ih=>exact .ns _ _ _ _ (ih (by simpa [zas] using hc) he) hn
 | pin ρ1 hp a v hl hv ih=>exact .pin _ _ _ _ hl hv
 | rom ρ1 z dom e n r es clock ks hR hks hlen hel hk hborn hbd hdom hz hc' ihz ih=>exact .rom _ _ _ _ _ _ _ _ _ hR hks hlen hel hk hborn hbd hdom hz hc'
 | ifc ρ1 t a v hv ih=>exact .ifc _ _ _ _ (ih (by simpa [zas] using hc) he)
 | cnd ρ1 g a v ht hf ih=>exact .cnd _ _ _ _ (fun hg=>ih hg (by simpa [zas] using hc) he) hf
 | raw=>exact .raw _ _
 | nz ρ1 n b hb=>exact .nz _ _ _ hb
 | po ρ1 b cs v ht hf ih=>exact .po _ _ _ _ (fun hg=>ih hg rfl he) hf
 | gb ρ1 id n li v hb hg h0=>subst he;exact .gb _ _ _ _ _ ((hρ id (zaw (by simpa [zas] using hc))).trans hb) hg h0
 | gp ρ1 id n i li ad hb hg=>subst he;exact .gp _ _ _ _ _ _ ((hρ id (zaw (by simpa [zas] using hc))).trans hb) hg
 | gr' ρ1 id i m li v hb hg h0=>subst he;exact .gr' _ _ _ _ _ _ ((hρ id (zaw (by simpa [zas] using hc))).trans hb) hg h0
 | sb ρ1 id n a b n' sz v v' hb hle h0 hq=>subst he;exact .sb _ _ _ _ _ _ _ _ _ ((hρ id (zaw (by simpa [zas] using hc))).trans hb) hle h0 hq
 | ge ρ1 id i m j off li v hb h0 hg=>subst he;exact .ge _ _ _ _ _ _ _ _ ((hρ id (zaw (by simpa [zas] using hc))).trans hb) h0 hg
theorem zh0 {k:Nat}:∀ (cs:List AV),(shL k cs).length=cs.length
 | []=>rfl
 | c::cs=>by simp [shL,zh0 cs]
theorem zh1 {k:Nat}:∀ {cs:List AV} {i:Nat} {c:AV},(shL k cs)[i]? = some c→∃ c0,cs[i]? = some c0∧c=c0.sh k
 | [],i,c,h=>by simp [shL] at h
 | x::cs,0,c,h=>by simp [shL] at h;exact ⟨x,by simp,h.symm⟩
 | x::cs,i+1,c,h=>by
  simp only [shL,List.getElem?_cons_succ] at h
  obtain ⟨c0,e1,e2⟩:=zh1 h
  exact ⟨c0,by simpa using e1,e2⟩
theorem Rel.shift {h:Hp} {ρ ρ':Rho} {ids:List Nat} {k:Nat} (hρ:∀ id,id∈ids→ρ' (k+id)=ρ id) {a:AV} {v:Value} (H:Rel h ρ a v) (hc:zas ids a=true):Rel h ρ' (a.sh k) v:=by
 obtain ⟨ρ1,he,H'⟩:∃ ρ1,ρ=ρ1∧Rel h ρ1 a v:=⟨ρ,rfl,H⟩
 clear H
 induction H' with
 | any ρ v=>simp only [AV.sh];exact .any _ _
 | one _ _ h1=>simp only [AV.sh];exact .one _ _ h1
 | nilS=>simp only [AV.sh];exact .nilS _
 | nilFn=>simp only [AV.sh];exact .nilFn _
 | nilPtr=>simp only [AV.sh];exact .nilPtr _
 | nilMap=>simp only [AV.sh];exact .nilMap _
 | nilIfc=>simp only [AV.sh];exact .nilIfc _
 | bool=>simp only [AV.sh];exact .bool _ _
 | int=>simp only [AV.sh];exact .int _ _ _
 | agg ρ1 cs vs hl hc' ih=>
  simp only [AV.sh]
  refine .agg _ _ _ (by rw [zh0];exact hl) fun i c v h1 h2=>?_
  obtain ⟨c0,e1,rfl⟩:=zh1 h1
  exact ih i c0 v e1 h2 (za1 (by simpa [zas] using hc) e1) he
 | tup ρ1 cs vs hl hc' ih=>
  simp only [AV.sh]
  refine .tup _ _ _ (by rw [zh0];exact hl) fun i c v h1 h2=>?_
  obtain ⟨c0,e1,rfl⟩:=zh1 h1
  exact ih i c0 v e1 h2 (za1 (by simpa [zas] using hc) e1) he
 | ro ρ1 sz n e a cap hnil hcap hsz hs h1 hc' ih=>simp only [AV.sh];exact .ro _ _ _ _ _ _ hnil hcap hsz hs h1 hc'
 | rp ρ1 cs ad hs hc' ih=>simp only [AV.sh];exact .rp _ _ _ hs hc'
 | lp ρ1 id off b hb=>simp only [AV.sh];subst he;exact .lp _ _ _ _ ((hρ id (zaw (by simpa [zas] using hc))).trans hb)
 | buf ρ1 id n n' sz v v' hb hle h1 hq=>simp only [AV.sh];subst he;exact .buf _ _ _ _ _ _ _ ((hρ id (zaw (by simpa [zas] using hc))).trans hb) hle h1 hq
 | ep ρ1 id n i off n' sz v v' hb hle h1 hq=>simp only [AV.sh];subst he;exact .ep _ _ _ _ _ _ _ _ _ ((hρ id (zaw (by simpa [zas] using hc))).trans hb) hle h1 hq
 | fn ρ1 f fs cs vs ws hl hm hc' hd ih1 ih2=>
  simp only [zas] at hc
  split at hc
  · rename_i h0
    simp only [AV.sh]
    refine .fn _ _ _ _ _ _ (by rw [zh0];exact hl) (by rw [zh0];exact hm) (fun i c v h1 h2=>?_) (fun i c v h1 h2=>?_)
    · obtain ⟨c0,e1,rfl⟩:=zh1 h1
      exact ih1 i c0 v e1 h2 (za1 h0 e1) he
    · obtain ⟨c0,e1,rfl⟩:=zh1 h1
      exact ih2 i c0 v e1 h2 (za1 hc e1) he
  · cases hc
 | clo ρ1 f fs cs v hv ih=>simp only [AV.sh];exact .clo _ _ _ _ _ hv
 | mp ρ1 id li b hb hm=>simp only [AV.sh];subst he;exact .mp _ _ _ _ ((hρ id (zaw (by simpa [zas] using hc))).trans hb) hm
 | romN ρ1 z dom e hdom hz=>simp only [AV.sh];exact .romN _ _ _ _ hdom hz
 | ns ρ1 b a v hv hn ih=>simp only [AV.sh];exact .ns _ _ _ _ (ih (by simpa [zas] using hc) he) hn
 | pin ρ1 hp a v hl hv ih=>simp only [AV.sh];exact .pin _ _ _ _ hl hv
 | rom ρ1 z dom e n r es clock ks hR hks hlen hel hk hborn hbd hdom hz hc' ihz ih=>simp only [AV.sh];exact .rom _ _ _ _ _ _ _ _ _ hR hks hlen hel hk hborn hbd hdom hz hc'
 | ifc ρ1 t a v hv ih=>simp only [AV.sh];exact .ifc _ _ _ _ (ih (by simpa [zas] using hc) he)
 | cnd ρ1 g a v ht hf ih=>simp only [AV.sh];exact .cnd _ _ _ _ (fun hg=>ih hg (by simpa [zas] using hc) he) hf
 | raw=>simp only [AV.sh];exact .raw _ _
 | nz ρ1 n b hb=>simp only [AV.sh];exact .nz _ _ _ hb
 | po ρ1 b cs v ht hf ih=>simp only [AV.sh] at ih ⊢;exact .po _ _ _ _ (fun hg=>ih hg rfl he) hf
 | gb ρ1 id n li v hb hg h0=>simp only [AV.sh];subst he;exact .gb _ _ _ _ _ ((hρ id (zaw (by simpa [zas] using hc))).trans hb) hg h0
 | gp ρ1 id n i li ad hb hg=>simp only [AV.sh];subst he;exact .gp _ _ _ _ _ _ ((hρ id (zaw (by simpa [zas] using hc))).trans hb) hg
 | gr' ρ1 id i m li v hb hg h0=>simp only [AV.sh];subst he;exact .gr' _ _ _ _ _ _ ((hρ id (zaw (by simpa [zas] using hc))).trans hb) hg h0
 | sb ρ1 id n a b n' sz v v' hb hle h0 hq=>simp only [AV.sh];subst he;exact .sb _ _ _ _ _ _ _ _ _ ((hρ id (zaw (by simpa [zas] using hc))).trans hb) hle h0 hq
 | ge ρ1 id i m j off li v hb h0 hg=>simp only [AV.sh];subst he;exact .ge _ _ _ _ _ _ _ _ ((hρ id (zaw (by simpa [zas] using hc))).trans hb) h0 hg
theorem zbN.shift {h:Hp} {ρ ρ':Rho} {ids:List Nat} {k:Nat} (hρ:∀ id,id∈ids→ρ' (k+id)=ρ id) {id:Nat} {x:Blk} {w:World} (H:zbN h ρ id x w) (hid:id∈ids) (ho:zeB ids x=true):zbN h ρ' (k+id) (x.sh k) w:=by
 cases x with
 | cells cs=>
  obtain ⟨b,vs,ty,q1,q2,q3,q4⟩:=H
  refine ⟨b,vs,ty,(hρ id hid).trans q1,q2,by rw [zh0];exact q3,fun i c v hc hv=>?_⟩
  obtain ⟨c0,e1,rfl⟩:=zh1 hc
  exact (q4 i c0 v e1 hv).shift hρ (za1 (by simpa [zeB] using ho) e1)
 | buf ty sz n e=>
  obtain ⟨v,xs,q1,q2⟩:=H
  exact ⟨v,xs,(hρ id hid).trans q1,q2⟩
 | map z dom e n=>
  obtain ⟨b,es,clock,ks,q1,q2⟩:=H
  exact ⟨b,es,clock,ks,(hρ id hid).trans q1,q2⟩
 | bufk ty sz n c e=>
  obtain ⟨v,xs,q1,q2⟩:=H
  exact ⟨v,xs,(hρ id hid).trans q1,q2⟩
 | iter e cur Pl=>
  obtain ⟨b,bm,clock,c0,es,seen,left,q1,q2⟩:=H
  exact ⟨b,bm,clock,c0,es,seen,left,(hρ id hid).trans q1,q2⟩
 | dead=>
  obtain ⟨n,sz,q1⟩:=H
  exact ⟨n,sz,(hρ id hid).trans q1⟩
 | grid tS ty sz n m e=>
  obtain ⟨v,rows,q1,q2⟩:=H
  exact ⟨v,rows,(hρ id hid).trans q1,q2⟩
 | gmap ty sz n dom m e out=>exact H.zkR (fun a=>a.sh k) (hρ id hid) (fun j a v ha hr=>hr.shift hρ (by subst ha;exact ho))
 | rows ty sz hd dom m e out=>exact H.zkD (fun a=>a.sh k) (hρ id hid) (fun j a v ha hr=>hr.shift hρ (by subst ha;exact ho))
open Classical in
noncomputable def hAll (h:Hp) (ρ:Rho) (w:World):Hp:=fun b=>if zcw ρ b then w.heap[b]? else h b
section
variable {P:Program} {N:Nat} {C:Ctx} {h:Hp} {ρ:Rho} {F:Fr} {M:Mm} {g:Nat} {a:Act} {w:World} {Γ:Tys} {mg:Mm} {o:Oper}
theorem InvH.znq (I:InvH N C h ρ F M g a w):∀ b o,h b=some o→hAll h ρ w b=some o:=by
 intro b o hb
 unfold hAll
 split
 · rename_i hs
   obtain ⟨id,li,h1,h2⟩:=hs
   have:=(I.own id li b h1 h2).1
   rw [hb] at this;cases this
 · exact hb
theorem znt {id:Nat} {li:LI} {b:Nat} (h1:ρ id=some li) (h2:li.owns b):hAll h ρ w b=w.heap[b]? := by
 unfold hAll
 rw [if_pos ⟨id,li,h1,h2⟩]
theorem InvH.zqL (I:InvH N C h ρ F M g a w):∀ b o,hAll h ρ w b=some o→w.heap[b]? = some o:=by
 intro b o hb
 unfold hAll at hb
 split at hb
 · exact hb
 · exact I.hp b o hb
theorem zfc:∀ {cs cs':List AV} {rd:List Nat} {c:Option Prop},zgQ mg cs=some (cs',rd,c)→cs'.length=cs.length ∧
 ∀ (i:Nat) (x':AV),cs'[i]? = some x'→∃ x rd' c',cs[i]? = some x∧view mg x=some (x',rd',c')∧(∀ id,id∈rd'→id∈rd)∧((∀ q,c=some q→q)→∀ q,c'=some q→q)
 | [],cs',rd,c,hv=>by
  simp only [zgQ] at hv;cases hv
  exact ⟨rfl,fun i x' hx=>by simp at hx⟩
 | y::ys,cs',rd,c,hv=>by
  simp only [zgQ] at hv
  split at hv
  · rename_i y' r1 p1 hy
    split at hv
    · rename_i ys' r2 p2 hys
      cases hv
      obtain ⟨hl,hg⟩:=zfc hys
      refine ⟨by simp [hl],fun i x' hx=>?_⟩
      cases i with
      | zero=>
       simp at hx;subst hx
       exact ⟨y,r1,p1,rfl,hy,fun id hid=>by simp [hid],fun H=>zhV H⟩
      | succ i=>
       simp only [List.getElem?_cons_succ] at hx
       obtain ⟨x,rd',c',h1,h2,h3,h4⟩:=hg i x' hx
       exact ⟨x,rd',c',by simpa using h1,h2,fun id hid=>by simp [h3 id hid],fun H=>h4 (zgP H)⟩
    · cases hv
  · cases hv
theorem zjX:∀ {cs cs':List AV} {rd:List Nat} {c:Option Prop},zjY mg cs=some (cs',rd,c)→cs'.length=cs.length ∧
 ∀ (i:Nat) (x':AV),cs'[i]? = some x'→∃ x rd' c',cs[i]? = some x∧zpI mg x=some (x',rd',c')∧(∀ id,id∈rd'→id∈rd)∧((∀ q,c=some q→q)→∀ q,c'=some q→q)
 | [],cs',rd,c,hv=>by
  simp only [zjY] at hv;cases hv
  exact ⟨rfl,fun i x' hx=>by simp at hx⟩
 | y::ys,cs',rd,c,hv=>by
  simp only [zjY] at hv
  split at hv
  · rename_i y' r1 p1 hy
    split at hv
    · rename_i ys' r2 p2 hys
      cases hv
      obtain ⟨hl,hg⟩:=zjX hys
      refine ⟨by simp [hl],fun i x' hx=>?_⟩
      cases i with
      | zero=>
       simp at hx;subst hx
       exact ⟨y,r1,p1,rfl,hy,fun id hid=>by simp [hid],fun H=>zhV H⟩
      | succ i=>
       simp only [List.getElem?_cons_succ] at hx
       obtain ⟨x,rd',c',h1,h2,h3,h4⟩:=hg i x' hx
       exact ⟨x,rd',c',by simpa using h1,h2,fun id hid=>by simp [h3 id hid],fun H=>h4 (zgP H)⟩
    · cases hv
  · cases hv
theorem zml (I:InvH N C h ρ F M g a w) {H2:Hp} (hLe:Le h H2) {x:AV} {v:Value} (H:Rel h ρ x v) {x':AV} {rd:List Nat} {c:Option Prop} (hv:zpI mg x=some (x',rd,c)) (h1:∀ id,id∈rd→M id=mg id) (h2:∀ q,c=some q→q)
 (h3:∀ id,id∈rd→∀ li b,ρ id=some li→li.owns b→H2 b=w.heap[b]?):Rel H2 ρ0 x' v:=by
 unfold zpI at hv
 split at hv
 · rename_i id n
   cases H with
   | buf _ _ _ n' sz _ v' hb hle h0 he=>
   split at hv
   · rename_i ty sz2 n2 e hg
     cases hv
     obtain rfl:=h2 _ rfl
     obtain ⟨v0,us,e1,e2,e3,e5,e4⟩:=I.blk id _ ((h1 id (by simp)).trans hg)
     rw [hb] at e1;cases e1
     obtain rfl:=he rfl
     exact zeb e2 (fun b hb'=>h3 id (by simp) _ b hb hb') e3 e5 (fun i j c v hi hj hv=>(e4 i j c v hi hj hv).heap hLe)
   · cases hv
 · rename_i id
   cases H with
   | mp _ _ li b hb hmb=>
   split at hv
   · rename_i z dom e n hg
     cases hv
     obtain ⟨b',es,clock,ks,q1,q2,q3,q4,q5,q6,q7,q8,q9,qz,q10⟩:=I.blk id _ ((h1 id (by simp)).trans hg)
     rw [hb] at q1;cases q1;cases hmb
     exact .rom _ _ _ _ _ _ es clock ks ((h3 id (by simp) _ _ hb rfl).trans q2) q3 q4 q5 q6 q7 q8 q9 (fun k hd=>(qz k hd).heap hLe) (fun i k y e3 e4=>(q10 i k y e3 e4).heap hLe)
   · cases hv
 · split at hv
   · rename_i hcl
     cases hv
     exact (H.heap hLe).zdO hcl
   · cases hv
theorem zjW (I:InvH N C h ρ F M g a w) {H2:Hp} (hLe:Le h H2) {x:AV} {v:Value} (H:Rel h ρ x v):∀ {x':AV} {rd:List Nat} {c:Option Prop},view mg x=some (x',rd,c) →
 (∀ id,id∈rd→M id=mg id)→(∀ q,c=some q→q)→(∀ id,id∈rd→∀ li b,ρ id=some li→li.owns b→H2 b=w.heap[b]?)→Rel H2 ρ0 x' v:=by
 obtain ⟨h9,ρ1,hh,hρ,H'⟩:∃ h9 ρ1,h=h9∧ρ=ρ1∧Rel h9 ρ1 x v:=⟨h,ρ,rfl,rfl,H⟩
 clear H
 induction H' with
 | one _ _ h1=>
  intro x' rd c hv _ _ _
  simp only [view] at hv;cases hv;exact .one _ _ h1
 | any|nilS|nilFn|nilPtr|nilMap|nilIfc|bool|int|raw=>
  intro x' rd c hv _ _ _
  simp only [view] at hv;cases hv;constructor
 | agg ρ1 cs vs hl hc ih=>
  intro x' rd c hv h1 h2 h3
  simp only [view] at hv
  split at hv
  · rename_i cs' r p hvl
    cases hv
    obtain ⟨hl',hg⟩:=zfc hvl
    refine .agg _ _ _ (by rw [hl,hl']) fun i y z hy hz=>?_
    obtain ⟨y0,rd',c',e1,e2,e3,e4⟩:=hg i y hy
    exact ih i y0 z e1 hz hh hρ e2 (fun id hid=>h1 id (e3 id hid)) (e4 h2) (fun id hid=>h3 id (e3 id hid))
  · cases hv
 | tup ρ1 cs vs hl hc ih=>
  intro x' rd c hv h1 h2 h3
  simp only [view] at hv
  split at hv
  · rename_i cs' r p hvl
    cases hv
    obtain ⟨hl',hg⟩:=zfc hvl
    refine .tup _ _ _ (by rw [hl,hl']) fun i y z hy hz=>?_
    obtain ⟨y0,rd',c',e1,e2,e3,e4⟩:=hg i y hy
    exact ih i y0 z e1 hz hh hρ e2 (fun id hid=>h1 id (e3 id hid)) (e4 h2) (fun id hid=>h3 id (e3 id hid))
  · cases hv
 | fn ρ1 f fs cs vs ws hl hm' hc hd ih1 ih2=>
  intro x' rd c hv h1 h2 h3
  simp only [view] at hv
  split at hv
  · rename_i fs' r p hvl
    split at hv
    · rename_i cs' r2 p2 hvl2
      cases hv
      obtain ⟨hl1,hg1⟩:=zfc hvl
      obtain ⟨hl2,hg2⟩:=zfc hvl2
      refine .clo _ _ _ _ _ (.fn _ _ _ _ _ _ (by rw [hl,hl1]) (by rw [hm',hl2]) (fun i y z hy hz=>?_) (fun i y z hy hz=>?_))
      · obtain ⟨y0,rd',c',e1,e2,e3,e4⟩:=hg1 i y hy
        exact ih1 i y0 z e1 hz hh hρ e2 (fun id hid=>h1 id (by simp [e3 id hid])) (e4 (zhV h2)) (fun id hid=>h3 id (by simp [e3 id hid]))
      · obtain ⟨y0,rd',c',e1,e2,e3,e4⟩:=hg2 i y hy
        exact ih2 i y0 z e1 hz hh hρ e2 (fun id hid=>h1 id (by simp [e3 id hid])) (e4 (zgP h2)) (fun id hid=>h3 id (by simp [e3 id hid]))
    · cases hv
  · cases hv
 | clo ρ1 f fs cs v hv0 ih=>
  intro x' rd c hv _ _ _
  subst hh
  simp only [view] at hv;cases hv
  exact .clo _ _ _ _ _ (hv0.heap hLe)
 | ro ρ1 sz n e ad cap hnil hcap hsz hs h1 hc ih=>
  intro x' rd c hv _ _ _
  subst hh
  simp only [view] at hv;cases hv
  exact (Rel.ro ρ0 sz n e ad cap hnil hcap hsz hs h1 hc).heap hLe
 | rp ρ1 cs ad hs hc ih=>
  intro x' rd c hv _ _ _
  subst hh
  simp only [view] at hv;cases hv
  exact (Rel.rp ρ0 cs ad hs hc).heap hLe
 | rom ρ1 z dom e n r es clock ks hR hks hlen hel hk hborn hbd hdom hz hc ihz ih=>
  intro x' rd c hv _ _ _
  subst hh
  simp only [view] at hv;cases hv
  exact (Rel.rom ρ0 z dom e n r es clock ks hR hks hlen hel hk hborn hbd hdom hz hc).heap hLe
 | ifc ρ1 t x v hx ih=>
  intro x' rd c hv h1 h2 h3
  simp only [view] at hv
  split at hv
  · rename_i y r p hy
    cases hv
    exact .ifc _ _ _ _ (ih hh hρ hy h1 h2 h3)
  · cases hv
 | cnd=>intro x' rd c hv _ _ _;simp [view] at hv
 | ep=>intro x' rd c hv _ _ _;simp [view] at hv
 | romN ρ1 z dom e hdom hz=>
  intro x' rd c hv _ _ _
  subst hh
  simp only [view] at hv;cases hv;exact (Rel.romN _ _ _ _ hdom hz:Rel h ρ0 _ _).heap hLe
 | pin ρ1 hp0 a v hl hv0 ih=>
  intro x' rd c hv _ _ _
  subst hh
  simp only [view] at hv;cases hv;exact .pin _ _ _ _ (hl.trans hLe) hv0
 | ns ρ1 b a v hv0 hn ih=>
  intro x' rd c hv _ _ _
  subst hh
  simp only [view] at hv
  split at hv
  · rename_i hcl;cases hv;exact .ns _ _ _ _ ((hv0.zdO hcl).heap hLe) hn
  · cases hv
 | mp ρ1 id li b hb hmb=>
  intro x' rd c hv h1 h2 h3
  subst hρ;subst hh
  simp only [view] at hv
  split at hv
  · rename_i z dom e n hg
    cases hv
    obtain ⟨b',es,clock,ks,q1,q2,q3,q4,q5,q6,q7,q8,q9,qz,q10⟩:=I.blk id _ ((h1 id (by simp)).trans hg)
    rw [hb] at q1;cases q1;cases hmb
    exact .rom _ _ _ _ _ _ es clock ks ((h3 id (by simp) _ _ hb rfl).trans q2) q3 q4 q5 q6 q7 q8 q9 (fun k hd=>(qz k hd).heap hLe) (fun i k y e3 e4=>(q10 i k y e3 e4).heap hLe)
  · cases hv
 | lp ρ1 id off b hb=>
  intro x' rd c hv h1 h2 h3
  subst hρ;subst hh
  simp only [view] at hv
  cases hg:mg id with
  | none=>simp [hg] at hv
  | some bl=>
  cases bl <;> simp only [hg] at hv <;> (try (cases hv;done))
  rename_i cs
  cases hd:zdJ off cs with
  | none=>simp [hd] at hv
  | some r=>
  simp only [hd] at hv
  cases hcl:zjY mg r with
  | none=>simp [hcl] at hv
  | some q=>
  obtain ⟨r',rd',c'⟩:=q
  simp only [hcl] at hv
  cases hv
  obtain ⟨hvl,hvg⟩:=zjX hcl
  obtain ⟨rfl,hle⟩:=zc3 hd
  obtain ⟨b',vs,ty,q1,q2,q3,q4⟩:=I.blk id _ ((h1 id (by simp)).trans hg)
  rw [hb] at q1;cases q1
  have key:∀ j,cellOf H2 (Addr.add ⟨b,off,none⟩ j)=vs[off+j]? := by
   intro j
   unfold cellOf
   rw [Addr.add_lit]
   simp only [h3 id (by simp) _ _ hb (show (LI.blk b).owns b from rfl),q2]
   simp
  refine .rp _ _ _ (fun j hj=>?_) (fun j y z hy hz=>?_)
  · rw [key]
    have:off+j<vs.length:=by rw [q3];rw [hvl] at hj;simp at hj;omega
    simp [this]
  · rw [key] at hz
    obtain ⟨y0,rd2,c2,e1,e2,e3,e4⟩:=hvg j y hy
    rw [List.getElem?_drop] at e1
    exact zml I hLe (q4 _ y0 z e1 hz) e2 (fun id hid=>h1 id (List.mem_cons_of_mem _ (e3 id hid))) (e4 h2) (fun id hid=>h3 id (List.mem_cons_of_mem _ (e3 id hid)))
 | buf ρ1 id n n' sz v v' hb hle h0 he=>
  intro x' rd c hv h1 h2 h3
  subst hρ;subst hh
  simp only [view] at hv
  cases hg:mg id with
  | none=>simp [hg] at hv
  | some bl=>
  cases bl <;> simp only [hg] at hv <;> (try (cases hv;done))
  rename_i ty sz2 n2 e
  cases hv
  obtain rfl:=h2 _ rfl
  obtain ⟨v0,us,e1,e2,e3,e5,e4⟩:=I.blk id _ ((h1 id (by simp)).trans hg)
  rw [hb] at e1;cases e1
  obtain rfl:=he rfl
  exact zeb e2 (fun b hb'=>h3 id (by simp) _ b hb hb') e3 e5 (fun i j c v hi hj hv=>(e4 i j c v hi hj hv).heap hLe)
 | nz ρ1 n b hb=>
  intro x' rd c hv _ _ _
  simp only [view] at hv;cases hv;exact .nz _ _ _ hb
 | po ρ1 b cs v ht hf ih=>
  intro x' rd c hv _ _ _
  subst hh
  simp only [view] at hv;cases hv;exact .po _ _ _ _ (fun hg=>((ht hg).heap hLe).zdO rfl) hf
 | gp=>intro x' rd c hv _ _ _;simp [view] at hv
 | sb ρ1 id n a b n' sz v v' hb hle h0 he=>
  intro x' rd c hv h1 h2 h3
  subst hρ;subst hh
  simp only [view] at hv
  cases hg:mg id with
  | none=>simp [hg] at hv
  | some bl=>
  cases bl <;> simp only [hg] at hv <;> (try (cases hv;done))
  rename_i ty sz2 n2 e
  cases hv
  obtain ⟨rfl,hab,hbn⟩:=h2 _ rfl
  obtain ⟨v0,us,e1,e2,e3,e5,e4⟩:=I.blk id _ ((h1 id (by simp)).trans hg)
  rw [hb] at e1;cases e1
  obtain ⟨g,cap,rfl,rfl⟩:=he rfl
  have hro:=zeb (H2:=H2) e2 (fun b hb'=>h3 id (by simp) _ b hb hb') e3 e5 (fun i j c v hi hj hv=>(e4 i j c v hi hj hv).heap hLe)
  have:=zov hro hab hbn
  have hadr:(if cap=a then some (⟨g,0,none⟩:Addr) else (some (⟨g,0,none⟩:Addr)).map (·.add (a * sz)))=some (if cap=a then ⟨g,0,none⟩ else ⟨g,a * sz,none⟩):=by
   split
   · rfl
   · simp [Addr.add_lit]
  rw [hadr] at this
  exact this
 | gr'=>intro x' rd c hv _ _ _;simp [view] at hv
 | ge=>intro x' rd c hv _ _ _;simp [view] at hv
 | gb ρ1 id n li v hb hgg h0=>
  intro x' rd c hv h1 h2 h3
  subst hρ;subst hh
  simp only [view] at hv
  cases hg:mg id with
  | none=>simp [hg] at hv
  | some bl=>
  cases bl <;> simp only [hg] at hv <;> (try (cases hv;done))
  rename_i tS ty sz2 n2 m e
  cases hv
  obtain rfl:=h2 _ rfl
  obtain ⟨v0,rows',e1,e2,e3,e4,_,_⟩:=I.blk id _ ((h1 id (by simp)).trans hg)
  rw [hb] at e1;cases e1
  obtain rfl:=(hgg _ _ _ rfl).2 e2.symm
  refine zeb e3 (fun b hb'=>h3 id (by simp) _ b hb (.inl hb')) (fun _ _=>rfl) (fun x hx=>?_) (fun i j c y hi hj hy=>?_)
  · obtain ⟨r,hr,rfl⟩:=List.mem_map.1 hx
    obtain ⟨k,hk⟩:=List.getElem?_of_mem hr
    exact (e4 k r hk).2.1
  · have hj0:j=0:=by
     have:=(List.getElem?_eq_some_iff.1 hj).1
     simp at this;exact this
    subst hj0
    simp at hj;subst hj
    rw [Nat.mul_one,Nat.add_zero,List.getElem?_map] at hy
    cases hk:rows'[i]? with
    | none=>simp [hk] at hy
    | some r=>
    simp [hk] at hy
    subst hy
    obtain ⟨g0,g1,xs,g2,g3,g4,g5⟩:=e4 i r hk
    rw [g0] at g2
    exact zeb g2 (fun b hb'=>h3 id (by simp) _ b hb (.inr ⟨r,List.mem_of_getElem? hk,hb'⟩)) g3 g4 (fun i' j' c' v' hi' hj' hv'=>(g5 i' j' c' v' hi' hj' hv').heap hLe)
theorem zfs (I:InvH N C h ρ F M g a w) {H2:Hp} (hLe:Le h H2) {xs xs':List AV} {vs:List Value} {rd:List Nat} {c:Option Prop} (H:RelL h ρ xs vs) (hv:zgQ mg xs=some (xs',rd,c)) (hm:∀ id,id∈rd→M id=mg id) (hc:∀ q,c=some q→q)
 (hH:∀ id,id∈rd→∀ li b,ρ id=some li→li.owns b→H2 b=w.heap[b]?):RelL H2 ρ0 xs' vs:=by
 obtain ⟨hl,hg⟩:=zfc hv
 refine ⟨by rw [hl];exact H.1,fun i y z hy hz=>?_⟩
 obtain ⟨y0,rd',c',e1,e2,e3,e4⟩:=hg i y hy
 exact zjW I hLe (H.2 i y0 z e1 hz) e2 (fun id hid=>hm id (e3 id hid)) (e4 hc) (fun id hid=>hH id (e3 id hid))
end
def Enters (P:Program) (f:FuncId):Prop:=∀ args w,(callFunc f args).run P w = .ok (.enter f args) w
def Fw (r:Option Nat):Fence:={ fn:=fun _=>True,depth:=none,alive:=false,round:=r }
def mm:List (Nat×Blk)→Mm
 | []=>fun _=>none
 | (i,b)::r=>upd (mm r) i (some b)
structure Owns (h:Hp) (ρ:Rho) (B:List (Nat×Blk)) (w w':World):Prop where
 blk:∀ id x,mm B id=some x→zbN h ρ id x w'
 dom:∀ id,mm B id=none→ρ id=none
 own:∀ id li b,ρ id=some li→li.owns b→h b=none∧w.heap.size≤b∧b<w'.heap.size
 inj:∀ id id' li li' b,ρ id=some li→ρ id'=some li'→li.owns b→li'.owns b→id=id'
def zir (h:Hp) (w:World) (v:AV) (B:List (Nat×Blk)):Ending→World→Prop
 | .returned x,w'=>∃ h' ρ',RowKit.Below w.heap.size w w'∧(∀ b o,h b=some o→h' b=some o)∧(∀ b o,h' b=some o→h b=some o∨(w.heap.size≤b∧w'.heap[b]? = some o))∧Rel h' ρ' v x∧Owns h' ρ' B w w'
 | _,_=>False
def Ctr (P:Program) (f:FuncId) (args:List AV) (v:AV) (B:List (Nat×Blk):=[]):Prop:=
 Enters P f∧∀ (h:Hp) (w:World) (vs:List Value),RelL h ρ0 args vs→(∀ b o,h b=some o→w.heap[b]? = some o)→CallsIn (Fw none) 0 P f vs.toArray w (zir h w v B)
structure Ownd (h:Hp) (ρ:Rho) (B:List (Nat×Blk)) (w:World):Prop where
 blk:∀ id x,mm B id=some x→zbN h ρ id x w
 dom:∀ id,mm B id=none→ρ id=none
 own:∀ id li b,ρ id=some li→li.owns b→h b=none∧b<w.heap.size
 inj:∀ id id' li li' b,ρ id=some li→ρ id'=some li'→li.owns b→li'.owns b→id=id'
def zll (h:Hp) (w:World) (ρ:Rho) (v:AV) (B:List (Nat×Blk)):Ending→World→Prop
 | .returned x,w'=>∃ h' ρ',w'.os=w.os∧w'.tape=w.tape∧w'.output=w.output∧w.heap.size≤w'.heap.size∧(∀ k,k<w.heap.size→¬ zcw ρ k→w'.heap[k]? = w.heap[k]?) ∧
  (∀ b o,h b=some o→h' b=some o)∧(∀ b o,h' b=some o→h b=some o∨(w.heap.size≤b∧w'.heap[b]? = some o))∧Rel h' ρ' v x∧Ownd h' ρ' B w'∧(∀ id li b,ρ' id=some li→li.owns b→zcw ρ b∨w.heap.size≤b)∧∀ id li li',ρ id=some li→ρ' id=some li'→li.le li'
 | _,_=>False
def CtrO (P:Program) (f:FuncId) (args:List AV) (A:List (Nat×Blk)) (v:AV) (B:List (Nat×Blk)):Prop:=
 Enters P f∧∀ (h:Hp) (w:World) (ρ:Rho) (vs:List Value),RelL h ρ args vs→(∀ b o,h b=some o→w.heap[b]? = some o)→Ownd h ρ A w→CallsIn (Fw none) 0 P f vs.toArray w (zll h w ρ v B)
def CtrG (P:Program) (f:FuncId) (xs:List AV×List (Nat×Blk)) (v:AV) (B:List (Nat×Blk)):Prop:=match xs.2 with
 | []=>Ctr P f xs.1 v B
 | _::_=>match takes B with
  | some _=>CtrO P f xs.1 xs.2 v B.tail
  | none=>CtrO P f xs.1 xs.2 v B
theorem zqC (r:Option Nat) (n:Nat):(Fw r).room n:=fun d h=>by cases h
theorem zc4 {P:Program} {f:FuncId} {args:Array Value} {w:World} {R:Ending→World→Prop} {r r':Option Nat} {n n':Nat} (H:CallsIn (Fw r) n P f args w R):CallsIn (Fw r') n' P f args w R:=
 ⟨trivial,fun cs _=>H.2 cs (zqC _ _)⟩
section
variable {P:Program} {N:Nat} {C:Ctx} {h:Hp} {ρ:Rho} {F:Fr} {M:Mm} {g:Nat} {a:Act} {w:World} {Γ:Tys} {mg:Mm} {o:Oper}
def zkp (P:Program) (N:Nat) (C:Ctx) (F:Fr) (M:Mm) (g:Nat) (a:Act) (o:Oper) (w:World) (v:AV) (wr:List (Nat×Blk)):Prop:=
 ∀ (rr:Option Nat) (n:Nat) (K:Act→World→Prop) (Q:Exit→Act→World→Prop),(∀ x h' ρ' w',InvH N C h' ρ' F (updL M wr) g a w'→Rel h' ρ' v x→K (a.put o.dst x) w')→o.wpIn (Fw rr) n P a w K Q
theorem Good.zm1 {r:R} (G:Good P N C h ρ F M g a o w r) (hd:∀ c,o.op ≠ .defer c):zkp P N C F M g a o w r.v r.wr:=by
 intro rr n K Q hK
 obtain ⟨x,w',h',ρ',hr,I,hv⟩:=G
 refine ⟨fun _ _=>trivial,?_⟩
 rw [Oper.semAt_eq _ _ _ hd]
 rcases hr with e|⟨e,rfl⟩ <;> rw [e]
 · exact hK _ _ _ _ I hv
 · exact hK _ _ _ _ I hv
theorem zdu:∀ {B:List (Nat×Blk)} {id:Nat},id∈zaz B↔(mm B id).isSome=true
 | [],id=>by simp [zaz,mm]
 | (i,b)::r,id=>by
  simp only [zaz,mm,List.mem_cons,upd]
  split
  · rename_i hb;simp [Nat.eq_of_beq_eq_true hb]
  · rename_i hb
    rw [zdu (B:=r)]
    have:id≠i:=by rintro rfl;simp at hb
    simp [this]
theorem ziW {k:Nat}:∀ {B:List (Nat×Blk)},zaz (shB k B)=(zaz B).map (k + ·)
 | []=>rfl
 | (i,b)::r=>by simp [zaz,shB,ziW (B:=r)]
theorem zfF:∀ {l:List Nat},zgF mg l=true→∀ i,i∈l→mg i=none
 | x::l,h,i,hi=>by
  unfold zgF at h
  split at h
  · rename_i hx
    rcases List.mem_cons.1 hi with rfl|hi
    · exact hx
    · exact zfF h i hi
  · cases h
theorem zgB {i:Nat} {r:List Nat} (h:zf5 (i::r)=true):i ∉ r∧zf5 r=true:=by
 unfold zf5 at h
 split at h
 · cases h
 · rename_i hb
   refine ⟨fun hi=>?_,h⟩
   have:∀ {l:List Nat} {t:Nat},t∈l→zbf l t=true:=by
    intro l
    induction l with
    | nil=>intro t h;cases h
    | cons k l ih=>
     intro t h
     unfold zbf
     rcases List.mem_cons.1 h with rfl|h
     · simp
     · split
       · rfl
       · exact ih h
   rw [this hi] at hb;cases hb
theorem zhr {k:Nat}:∀ {B:List (Nat×Blk)} {M:Mm} {id:Nat},(∀ i,i∈zaz B→id≠k+i)→updL M (shB k B) id=M id
 | [],_,_,_=>rfl
 | (i,b)::r,M,id,h=>by
  simp only [shB,updL]
  rw [zhr (fun j hj=>h j (by simp [zaz,hj])),zae _ _ (h i (by simp [zaz]))]
theorem zi1 {k:Nat}:∀ {B:List (Nat×Blk)} {M:Mm} {id:Nat},zf5 (zaz B)=true→id∈zaz B→∃ x,mm B id=some x∧updL M (shB k B) (k+id)=some (x.sh k)
 | (i,b)::r,M,id,hd,h=>by
  obtain ⟨h1,h2⟩:=zgB (by simpa only [zaz] using hd)
  simp only [shB,updL,mm,upd]
  simp only [zaz,List.mem_cons] at h
  by_cases e:id=i
  · subst e
    refine ⟨b,by simp,?_⟩
    rw [zhr (fun j hj=>by rintro e;have:id=j:=(by omega);exact h1 (this▸hj)),zaf]
  · obtain ⟨x,e1,e2⟩:=zi1 (M:=upd M (k+i) (some (b.sh k))) h2 (h.resolve_left e)
    refine ⟨x,?_,e2⟩
    have:Nat.beq id i=false:=by
     cases hb:Nat.beq id i with
     | false=>rfl
     | true=>exact absurd (Nat.eq_of_beq_eq_true hb) e
    simp [this,e1]
theorem InvH.adopt (I:InvH N C h ρ F M g a w) {w':World} {h':Hp} {ρc:Rho} {B:List (Nat×Blk)} {k:Nat} (hB:RowKit.Below w.heap.size w w') (hh:∀ b o,h b=some o→h' b=some o) (hnew:∀ b o,h' b=some o→h b=some o∨(w.heap.size≤b∧w'.heap[b]? = some o))
 (O:Owns h' ρc B w w') (hd:zf5 (zaz B)=true) (hf:∀ i,i∈zaz B→M (k+i)=none) (ho:zcZ (zaz B) B=true) :
 ∃ ρ',InvH N C h' ρ' F (updL M (shB k B)) g a w'∧∀ i,i∈zaz B→ρ' (k+i)=ρc i:=by
 classical
 let ρ':Rho:=fun id=>if k≤id∧(id - k)∈zaz B then ρc (id - k) else ρ id
 have hin:∀ i,i∈zaz B→ρ' (k+i)=ρc i:=fun i hi=>by
  show (if k≤k+i∧(k+i - k)∈zaz B then ρc (k+i - k) else ρ (k+i))=ρc i
  rw [Nat.add_sub_cancel_left,if_pos ⟨Nat.le_add_right _ _,hi⟩]
 have hout:∀ id,(¬ ∃ i,i∈zaz B∧id=k+i)→ρ' id=ρ id:=fun id hn=>by
  show (if k≤id∧(id - k)∈zaz B then ρc (id - k) else ρ id)=ρ id
  rw [if_neg]
  rintro ⟨h1,h2⟩
  exact hn ⟨id - k,h2,by omega⟩
 have hblk:∀ i x,i∈zaz B→mm B i=some x→zeB (zaz B) x=true:=by
  have key:∀ {ids:List Nat} {B':List (Nat×Blk)},zcZ ids B'=true→∀ i x,mm B' i=some x→zeB ids x=true:=by
   intro ids B'
   induction B' with
   | nil=>intro _ i x hx;cases hx
   | cons y r ih=>
    obtain ⟨j,b⟩:=y
    intro ho i x hx
    unfold zcZ at ho
    split at ho
    · rename_i hb
      simp only [mm,upd] at hx
      split at hx
      · cases hx;exact hb
      · exact ih ho i x hx
    · cases ho
  intro i x _ hx
  exact key ho i x hx
 refine ⟨ρ',I.step (S:=fun id=>∃ i,i∈zaz B∧id=k+i) hB.os hB.tape hB.output hB.size (fun k' hk' _=>hB.block k' hk') hout ?_ hh hnew ?_ ?_ ?_ ?_ ?_,hin⟩
 · intro id li hi
   refine ⟨li,?_,.inl rfl⟩
   rw [hout id ?_]
   · exact hi
   · rintro ⟨i,h1,rfl⟩
     rw [I.dom _ (hf i h1)] at hi;cases hi
 · intro id hn
   exact zhr (fun i hi e=>hn ⟨i,hi,e⟩)
 · rintro id ⟨i,h1,rfl⟩ hM
   obtain ⟨x,_,e2⟩:=zi1 (M:=M) (k:=k) hd h1
   rw [e2] at hM;cases hM
 · rintro id x ⟨i,h1,rfl⟩ hM
   obtain ⟨y,e1,e2⟩:=zi1 (M:=M) (k:=k) hd h1
   rw [e2] at hM;cases hM
   exact (O.blk i y e1).shift hin h1 (hblk i y h1 e1)
 · rintro id li b ⟨i,h1,rfl⟩ hr hb
   rw [hin i h1] at hr
   obtain ⟨q1,q2,q3⟩:=O.own i li b hr hb
   exact .inr ⟨q2,q3,q1⟩
 · rintro id id' li li' b ⟨i,h1,rfl⟩ ⟨i',h1',rfl⟩ hr hr' hb hb'
   rw [hin i h1] at hr
   rw [hin i' h1'] at hr'
   rw [O.inj i i' li li' b hr hr' hb hb']
theorem zjE (I:InvH N C h ρ F M g a w) {f:FuncId} {xs':List AV} {vs:List Value} {rd:List Nat} {c:Option Prop} {rv:RV} {r:R} (hrun:(execOp a.eval o).run P w=(callFunc f vs.toArray).run P w) (hd:∀ c,o.op ≠ .defer c)
 (hr:zmL mg f xs' rd c rv=some r) (hm:∀ id,id∈r.rd→M id=mg id) (hctr:Ctr P f xs' rv.v rv.B)
 (H:∀ H2:Hp,Le h H2→(∀ id,id∈rd→∀ li b,ρ id=some li→li.owns b→H2 b=w.heap[b]?)→(rd=[]∨r.rd=rd)→RelL H2 ρ0 xs' vs):zkp P N C F M g a o w r.v r.wr:=by
 intro rr n K Q hK
 refine ⟨fun _ _=>trivial,?_⟩
 rw [Oper.semAt_eq _ _ _ hd,hrun,hctr.1]
 refine ⟨fun e=>(by cases e),?_⟩
 obtain ⟨v,B,k,K0⟩:=rv
 unfold zmL at hr
 cases rd with
 | nil=>
  simp only [] at hr
  split at hr
  · rename_i h1
    split at hr
    · rename_i h2
      split at hr
      · rename_i h3
        split at hr
        · rename_i h4
          cases hr
          refine zc4 ((hctr.2 h w vs (H h (Le.refl h) (fun id hid=>by cases hid) (.inl rfl)) I.hp).mono fun e w' he=>?_)
          cases e with
          | returned x=>
           obtain ⟨h',ρc,q1,q2,q3,q4,q5⟩:=he
           have hfr:∀ i,i∈zaz B→M (k+i)=none:=fun i hi=>by
            have hmem:k+i∈zaz (shB k B):=by rw [ziW];exact List.mem_map_of_mem hi
            rw [hm _ hmem]
            exact zfF h4 _ hmem
           obtain ⟨ρ',I',hin⟩:=I.adopt q1 q2 q3 q5 h3 hfr h2
           exact hK x h' ρ' w' I' (q4.shift hin h1)
          | panicked ch=>exact he.elim
          | outgrown=>exact he.elim
        · cases hr
      · cases hr
    · cases hr
  · cases hr
 | cons i rd=>
  simp only [] at hr
  split at hr
  · rename_i hgr
    cases B with
    | cons=>simp at hr
    | nil=>
    simp only [] at hr
    cases hr
    refine zc4 ((hctr.2 (hAll h ρ w) w vs (H _ (Le.of I.znq) (fun id hid li b h1 h2=>znt h1 h2) (.inr rfl)) I.zqL).mono fun e w' he=>?_)
    cases e with
    | returned x=>
     obtain ⟨h',ρc,h1,h2,h3,h4,_⟩:=he
     exact hK x h ρ w' (I.below h1 (fun _ _ x=>x) (fun _ _ x=>.inl x)) (h4.zqY hgr)
    | panicked ch=>exact he.elim
    | outgrown=>exact he.elim
  · cases hr
theorem zgz {P:Program} {a:Act} {o:Oper} {f:Operand} {args:Array Operand} {ts:Array TypeId} (ho:o.op = .call { callee:=.value f,args:=args,argTypes:=ts }) {gf:FuncId} {us ws:List Value} (he:a.eval f = .func (.func gf) us.toArray ws.toArray) (w:World) :
 (execOp a.eval o).run P w=(callFunc gf (us++(args.toList.map a.eval++ws)).toArray).run P w:=by
 have e1:args.map a.eval=(args.toList.map a.eval).toArray:=by apply Array.ext';simp
 unfold execOp
 simp [ho,resolve,Deferred.ofValue,invoke,he,e1]
theorem zk1 {f:FuncId} {xs:List AV} {rd:List Nat} {c:Option Prop} {rv:RV} {r:R} (h:zmL mg f xs rd c rv=some r):r.cs=c∧r.rq=some (f,xs,[])∧(rd=[]∨r.rd=rd):=by
 unfold zmL at h
 cases rd with
 | nil=>
  simp only [] at h
  split at h
  · split at h
    · split at h
      · split at h
        · cases h;exact ⟨rfl,rfl,.inl rfl⟩
        · cases h
      · cases h
    · cases h
  · cases h
 | cons=>
  simp only [] at h
  split at h
  · cases hB:rv.B with
    | nil=>simp only [hB] at h;cases h;exact ⟨rfl,rfl,.inr rfl⟩
    | cons=>simp [hB] at h
  · cases h
theorem zpw (I:InvH N C h ρ F M g a w) {f:FuncId} {xs:List AV} {vs:List Value} {rv:RV} {id:Nat} {r:R} (hrun:(execOp a.eval o).run P w=(callFunc f vs.toArray).run P w) (hd:∀ c,o.op ≠ .defer c) (htk:takes rv.B=some id)
 (hr:zph mg f xs id rv.v rv.B.tail rv.k=some r) (hm:∀ id,id∈r.rd→M id=mg id) (hq:∀ gf xs,r.rq=some (gf,xs)→CtrG P gf xs rv.v rv.B) (hx:RelL h ρ xs vs):zkp P N C F M g a o w r.v r.wr:=by
 intro rr n K Q hK
 obtain ⟨v,B0,k,K0⟩:=rv
 obtain ⟨B,hB⟩:∃ B,B0.tail=B:=⟨_,rfl⟩
 simp only [hB] at hr hq
 unfold zph at hr
 cases hg:mg id with
 | none=>simp [hg] at hr
 | some bl=>
 cases bl <;> simp only [hg] at hr <;> (try (cases hr;done))
 rename_i ty sz m e
 cases h1:zdh [id] xs with
 | false=>simp [h1] at hr
 | true=>
 simp only [h1] at hr
 cases h2:zas (zaz B) v with
 | false=>simp [h2] at hr
 | true=>
 simp only [h2] at hr
 cases h3:zcZ (zaz B) B with
 | false=>simp [h3] at hr
 | true=>
 simp only [h3] at hr
 cases h4:zf5 (zaz B) with
 | false=>simp [h4] at hr
 | true=>
 simp only [h4] at hr
 cases h5:zgF mg (zaz (shB k B)) with
 | false=>simp [h5] at hr
 | true=>
 simp only [h5] at hr
 cases hr
 have hctr:CtrO P f xs [(id,.buf ty sz m e)] v B:=by
  have:=hq f (xs,[(id,.buf ty sz m e)]) rfl
  simpa [CtrG,hB,show takes B0=some id from htk] using this
 have hMid:M id=some (.buf ty sz m e):=(hm id (by simp)).trans hg
 have hfr:∀ i,i∈zaz B→M (k+i)=none:=fun i hi=>by
  have hmem:k+i∈zaz (shB k B):=by rw [ziW];exact List.mem_map_of_mem hi
  rw [hm _ (by simp [hmem])]
  exact zfF h5 _ hmem
 have hne:∀ i,i∈zaz B→k+i≠id:=fun i hi e=>by
  have:=hfr i hi
  rw [e,hMid] at this;cases this
 obtain ⟨v0,us,k1,k2,k3,k5,k4⟩:=I.blk id _ hMid
 refine ⟨fun _ _=>trivial,?_⟩
 rw [Oper.semAt_eq _ _ _ hd,hrun,hctr.1]
 refine ⟨fun e=>(by cases e),?_⟩
 obtain ⟨ρi,hρi⟩:∃ ρi:Rho,ρi=fun j=>if j=id then ρ id else none:=⟨_,rfl⟩
 have hρid:ρi id=ρ id:=by rw [hρi];simp
 have hρin:∀ j li,ρi j=some li→j=id∧ρ id=some li:=fun j li h=>by
  rw [hρi] at h
  by_cases hj:j=id
  · simp [hj] at h;exact ⟨hj,h⟩
  · simp [hj] at h
 have hown:∀ b,zcw ρi b↔∃ li,ρ id=some li∧li.owns b:=fun b=>by
  constructor
  · rintro ⟨j,li,q1,q2⟩
    obtain ⟨rfl,q3⟩:=hρin j li q1
    exact ⟨li,q3,q2⟩
  · rintro ⟨li,q1,q2⟩
    exact ⟨id,li,hρid.trans q1,q2⟩
 have hrel:RelL h ρi xs vs:=⟨hx.1,fun i c v hc hv=>(hx.2 i c v hc hv).forget (ids:=[id]) (fun j hj=>by
  have:j=id:=by simpa using hj
  subst this;exact hρid) (za1 h1 hc)⟩
 have hOw:Ownd h ρi [(id,.buf ty sz m e)] w:=by
  refine ⟨fun j x hj=>?_,fun j hj=>?_,fun j li b q1 q2=>?_,fun j j' li li' b q1 q1' _ _=>?_⟩
  · simp only [mm,upd] at hj
    split at hj
    · rename_i hb
      have:=Nat.eq_of_beq_eq_true hb
      subst this
      cases hj
      exact ⟨v0,us,hρid.trans k1,k2,k3,k5,k4⟩
    · cases hj
  · cases hp:ρi j with
    | none=>rfl
    | some li=>
     obtain ⟨rfl,_⟩:=hρin j li hp
     simp [mm,upd] at hj
  · obtain ⟨rfl,q3⟩:=hρin j li q1
    obtain ⟨q4,q5,_⟩:=I.own j li b q3 q2
    exact ⟨q4,q5⟩
  · rw [(hρin j li q1).1,(hρin j' li' q1').1]
 refine zc4 ((hctr.2 h w ρi vs hrel I.hp hOw).mono fun en w' he=>?_)
 cases en with
 | panicked ch=>exact he.elim
 | outgrown=>exact he.elim
 | returned x=>
 obtain ⟨h',ρ2,p1,p2,p3,p4,p5,p6,p7,p8,p9,p10,_⟩:=he
 classical
 let ρ':Rho:=fun j=>if j=id then some (.sl (m+1) sz (.slice none 0 0)) else if k≤j∧(j - k)∈zaz B then ρ2 (j - k) else ρ j
 have hin:∀ i,i∈zaz B→ρ' (k+i)=ρ2 i:=fun i hi=>by
  show (if k+i=id then _ else if k≤k+i∧(k+i - k)∈zaz B then ρ2 (k+i - k) else ρ (k+i))=ρ2 i
  rw [if_neg (hne i hi),Nat.add_sub_cancel_left,if_pos ⟨Nat.le_add_right _ _,hi⟩]
 have hdead:ρ' id=some (.sl (m+1) sz (.slice none 0 0)):=if_pos rfl
 have hout:∀ j,¬ (j=id∨∃ i,i∈zaz B∧j=k+i)→ρ' j=ρ j:=fun j hn=>by
  simp only [not_or] at hn
  show (if j=id then _ else if k≤j∧(j - k)∈zaz B then ρ2 (j - k) else ρ j)=ρ j
  rw [if_neg hn.1,if_neg]
  rintro ⟨q1,q2⟩
  exact hn.2 ⟨j - k,q2,by omega⟩
 have hblk:∀ i x,mm B i=some x→zeB (zaz B) x=true:=by
  have key:∀ {ids:List Nat} {B':List (Nat×Blk)},zcZ ids B'=true→∀ i x,mm B' i=some x→zeB ids x=true:=by
   intro ids B'
   induction B' with
   | nil=>intro _ i x hx;cases hx
   | cons y r ih=>
    obtain ⟨j,b⟩:=y
    intro ho i x hx
    unfold zcZ at ho
    split at ho
    · rename_i hb
      simp only [mm,upd] at hx
      split at hx
      · cases hx;exact hb
      · exact ih ho i x hx
    · cases ho
  exact key h3
 have hMd:∀ j,updL M ((id,.dead)::shB k B) j=updL (upd M id (some .dead)) (shB k B) j:=fun j=>rfl
 have hMid':updL M ((id,.dead)::shB k B) id=some .dead:=by
  rw [hMd,zhr (fun i hi=>(hne i hi).symm),zaf]
 refine hK x h' ρ' w' (I.step (S:=fun j=>j=id∨∃ i,i∈zaz B∧j=k+i) p1 p2 p3 p4 (fun kk hkk hS=>p5 kk hkk (fun ho=>by
  obtain ⟨li,q1,q2⟩:=(hown kk).1 ho
  exact hS id li (.inl rfl) q1 q2)) hout ?_ p6 p7 ?_ ?_ ?_ ?_ ?_) (p8.shift hin h2)
 · intro j li hj
   by_cases hj1:j=id
   · subst hj1
     rw [k1] at hj;cases hj
     exact ⟨_,hdead,.inr (.inl ⟨_,_,_,_,_,rfl,rfl,Nat.lt_succ_self _⟩)⟩
   · refine ⟨li,?_,.inl rfl⟩
     rw [hout j ?_]
     · exact hj
     · rintro (q|⟨i,q1,rfl⟩)
       · exact hj1 q
       · rw [I.dom _ (hfr i q1)] at hj;cases hj
 · intro j hn
   simp only [not_or] at hn
   show updL M ((id,.dead)::shB k B) j=M j
   rw [hMd,zhr (fun i hi e=>hn.2 ⟨i,hi,e⟩),zae _ _ hn.1]
 · rintro j (rfl|⟨i,q1,rfl⟩) hM
   · rw [hMid'] at hM;cases hM
   · obtain ⟨y,_,e2⟩:=zi1 (M:=upd M id (some .dead)) (k:=k) h4 q1
     rw [hMd,e2] at hM;cases hM
 · rintro j y (rfl|⟨i,q1,rfl⟩) hM
   · rw [hMid'] at hM;cases hM
     exact ⟨_,_,hdead⟩
   · obtain ⟨z,e1,e2⟩:=zi1 (M:=upd M id (some .dead)) (k:=k) h4 q1
     rw [hMd,e2] at hM;cases hM
     exact (p9.blk i z e1).shift hin q1 (hblk i z e1)
 · rintro j li b (rfl|⟨i,q1,rfl⟩) hj hb
   · rw [hdead] at hj;cases hj;simp [LI.owns,Value.ownBlock] at hb
   · rw [hin i q1] at hj
     rcases p10 i li b hj hb with q2|q2
     · obtain ⟨li0,q3,q4⟩:=(hown b).1 q2
       exact .inl ⟨id,li0,.inl rfl,q3,q4⟩
     · obtain ⟨q3,q4⟩:=p9.own i li b hj hb
       exact .inr ⟨q2,q4,q3⟩
 · rintro j j' li li' b (rfl|⟨i,q1,rfl⟩) (rfl|⟨i',q1',rfl⟩) hj hj' hb hb'
   · rfl
   · rw [hdead] at hj;cases hj;simp [LI.owns,Value.ownBlock] at hb
   · rw [hdead] at hj';cases hj';simp [LI.owns,Value.ownBlock] at hb'
   · rw [hin i q1] at hj
     rw [hin i' q1'] at hj'
     rw [p9.inj i i' li li' b hj hj' hb hb']
theorem zbN.forget {h:Hp} {ρ ρ':Rho} {ids:List Nat} (hρ:∀ id,id∈ids→ρ' id=ρ id) {id:Nat} {x:Blk} {w:World} (H:zbN h ρ id x w) (hid:id∈ids) (ho:zeB ids x=true):zbN h ρ' id x w:=by
 cases x with
 | cells cs=>
  obtain ⟨b,vs,ty,q1,q2,q3,q4⟩:=H
  exact ⟨b,vs,ty,(hρ id hid).trans q1,q2,q3,fun i c v hc hv=>(q4 i c v hc hv).forget hρ (za1 (by simpa [zeB] using ho) hc)⟩
 | buf ty sz n e=>
  obtain ⟨v,xs,q1,q2⟩:=H
  exact ⟨v,xs,(hρ id hid).trans q1,q2⟩
 | map z dom e n=>
  obtain ⟨b,es,clock,ks,q1,q2⟩:=H
  exact ⟨b,es,clock,ks,(hρ id hid).trans q1,q2⟩
 | bufk ty sz n c e=>
  obtain ⟨v,xs,q1,q2⟩:=H
  exact ⟨v,xs,(hρ id hid).trans q1,q2⟩
 | iter e cur Pl=>
  obtain ⟨b,bm,clock,c0,es,seen,left,q1,q2⟩:=H
  exact ⟨b,bm,clock,c0,es,seen,left,(hρ id hid).trans q1,q2⟩
 | dead=>
  obtain ⟨n,sz,q1⟩:=H
  exact ⟨n,sz,(hρ id hid).trans q1⟩
 | grid tS ty sz n m e=>
  obtain ⟨v,rows,q1,q2⟩:=H
  exact ⟨v,rows,(hρ id hid).trans q1,q2⟩
 | gmap ty sz n dom m e out=>rw [← zkH out];exact H.zkR (fun a=>a) (hρ id hid) (fun j a v ha hr=>hr.forget hρ (by subst ha;exact ho))
 | rows ty sz hd dom m e out=>rw [← zkH out];exact H.zkD (fun a=>a) (hρ id hid) (fun j a v ha hr=>hr.forget hρ (by subst ha;exact ho))
theorem zbN.name {h:Hp} {ρ:Rho} {id:Nat} {x:Blk} {w:World} (H:zbN h ρ id x w):∃ li,ρ id=some li:=by
 cases x with
 | cells cs=>obtain ⟨b,vs,ty,q1,_⟩:=H;exact ⟨_,q1⟩
 | buf ty sz n e=>obtain ⟨v,xs,q1,_⟩:=H;exact ⟨_,q1⟩
 | map z dom e n=>obtain ⟨b,es,clock,ks,q1,_⟩:=H;exact ⟨_,q1⟩
 | bufk ty sz n c e=>obtain ⟨v,xs,q1,_⟩:=H;exact ⟨_,q1⟩
 | iter e cur Pl=>obtain ⟨b,bm,clock,c0,es,seen,left,q1,_⟩:=H;exact ⟨_,q1⟩
 | dead=>obtain ⟨n,sz,q1⟩:=H;exact ⟨_,q1⟩
 | grid tS ty sz n m e=>obtain ⟨v,rows,q1,_⟩:=H;exact ⟨_,q1⟩
 | gmap ty sz n dom m e out=>obtain ⟨b,es,clock,ks,R,q1,_⟩:=H;exact ⟨_,q1⟩
 | rows ty sz hd dom m e out=>obtain ⟨R,q1,_⟩:=H;exact ⟨_,q1⟩
theorem zfg {ids:List Nat}:∀ {B:List (Nat×Blk)},zcZ ids B=true→∀ i x,mm B i=some x→zeB ids x=true
 | [],_,i,x,hx=>by cases hx
 | (j,b)::r,ho,i,x,hx=>by
  unfold zcZ at ho
  split at ho
  · rename_i hb
    simp only [mm,upd] at hx
    split at hx
    · cases hx;exact hb
    · exact zfg ho i x hx
  · cases ho
theorem zfZ:∀ {B:List (Nat×Blk)} {M:Mm} {i:Nat},zf5 (zaz B)=true→i∈zaz B→updL M B i=mm B i
 | [],M,i,_,h=>by cases h
 | (j,b)::r,M,i,hn,h=>by
  obtain ⟨h1,h2⟩:=zgB (i:=j) (r:=zaz r) hn
  simp only [updL]
  rcases List.mem_cons.1 h with rfl|h3
  · have e:updL (upd M i (some b)) r i=upd M i (some b) i:=by
     have key:∀ {r:List (Nat×Blk)} {M:Mm},i ∉ zaz r→updL M r i=M i:=by
      intro r
      induction r with
      | nil=>intro M _;rfl
      | cons y r ih=>
       obtain ⟨k,c⟩:=y
       intro M hk
       simp only [zaz,List.mem_cons,not_or] at hk
       simp only [updL]
       rw [ih hk.2,zae _ _ hk.1]
     exact key h1
    rw [e,zaf]
    simp [mm,upd]
  · rw [zfZ h2 h3]
    have hne:i≠j:=fun e=>h1 (e▸h3)
    simp only [mm]
    rw [zae _ _ hne]
theorem ziN:∀ {B:List (Nat×Blk)} {M:Mm} {i:Nat},i ∉ zaz B→updL M B i=M i
 | [],M,i,_=>rfl
 | (j,b)::r,M,i,h=>by
  simp only [zaz,List.mem_cons,not_or] at h
  simp only [updL]
  rw [ziN h.2,zae _ _ h.1]
theorem zjr {mg:Mm}:∀ {K:List Nat} {A:List (Nat×Blk)},handed mg K=some A→(∀ i,i∈K→∃ b,mm A i=some b∧mg i=some b)∧∀ i,i ∉ K→mm A i=none
 | [],A,h=>by simp only [handed] at h;cases h;exact ⟨fun i h=>(by cases h),fun i _=>rfl⟩
 | j::K,A,h=>by
  simp only [handed] at h
  split at h
  · rename_i b hb
    split at h
    · rename_i l hl
      cases h
      obtain ⟨h1,h2⟩:=zjr hl
      refine ⟨fun i hi=>?_,fun i hi=>?_⟩
      · simp only [mm]
        by_cases e:i=j
        · subst e;exact ⟨b,zaf _ _ _,hb⟩
        · rw [zae _ _ e]
          rcases List.mem_cons.1 hi with h3|h3
          · exact absurd h3 e
          · exact h1 i h3
      · simp only [List.mem_cons,not_or] at hi
        simp only [mm]
        rw [zae _ _ hi.1]
        exact h2 i hi.2
    · cases h
  · cases h
theorem ziq {ids:List Nat}:∀ {K:List Nat},zoe ids K=true→∀ i,i∈K→i∈ids
 | [],_,i,h=>by cases h
 | j::K,h,i,hi=>by
  simp only [zoe] at h
  split at h
  · rename_i hj
    rcases List.mem_cons.1 hi with rfl|h3
    · exact zaw hj
    · exact ziq h i h3
  · cases h
theorem zgd {K:List Nat} {mg:Mm}:∀ {l:List Nat},zie K mg l=true→∀ i,i∈l→i∈K∨mg i=none
 | [],_,i,h=>by cases h
 | j::l,h,i,hi=>by
  simp only [zie] at h
  split at h
  · rename_i hj
    rcases List.mem_cons.1 hi with rfl|h3
    · exact .inl (zaw hj)
    · exact zgd h i h3
  · split at h
    · rename_i hm
      rcases List.mem_cons.1 hi with rfl|h3
      · exact .inr hm
      · exact zgd h i h3
    · cases h
theorem zpx (I:InvH N C h ρ F M g a w) {f:FuncId} {xs:List AV} {vs:List Value} {rv:RV} {r:R} (hrun:(execOp a.eval o).run P w=(callFunc f vs.toArray).run P w) (hd:∀ c,o.op ≠ .defer c) (htk:takes rv.B=none) {i0:Nat} {K0:List Nat}
 (hr:zpi mg f xs rv.v rv.B (i0::K0)=some r) (hm:∀ id,id∈r.rd→M id=mg id) (hq:∀ gf xs,r.rq=some (gf,xs)→CtrG P gf xs rv.v rv.B) (hx:RelL h ρ xs vs):zkp P N C F M g a o w r.v r.wr:=by
 intro rr n KK Q hK
 obtain ⟨v,B,k,K1⟩:=rv
 obtain ⟨K,hKe⟩:∃ K,i0::K0=K:=⟨_,rfl⟩
 simp only [hKe] at hr hq htk
 unfold zpi at hr
 cases hg:handed mg K with
 | none=>simp [hg] at hr
 | some A=>
 simp only [hg] at hr
 cases h1:zdh K xs with
 | false=>simp [h1] at hr
 | true=>
 simp only [h1] at hr
 cases h2:zcZ K A with
 | false=>simp [h2] at hr
 | true=>
 simp only [h2] at hr
 cases h3:zas (zaz B) v with
 | false=>simp [h3] at hr
 | true=>
 simp only [h3] at hr
 cases h4:zcZ (zaz B) B with
 | false=>simp [h4] at hr
 | true=>
 simp only [h4] at hr
 cases h5:zf5 (zaz B) with
 | false=>simp [h5] at hr
 | true=>
 simp only [h5] at hr
 cases h6:zoe (zaz B) K with
 | false=>simp [h6] at hr
 | true=>
 simp only [h6] at hr
 cases h7:zie K mg (zaz B) with
 | false=>simp [h7] at hr
 | true=>
 simp only [h7] at hr
 cases hr
 obtain ⟨a1,a2⟩:=zjr hg
 have hctr:CtrO P f xs A v B:=by
  have:=hq f (xs,A) rfl
  cases A with
  | nil=>
   obtain ⟨b,q,_⟩:=a1 i0 (by rw [← hKe];exact List.mem_cons_self ..)
   cases q
  | cons y A=>simpa [CtrG,htk] using this
 have hKB:=ziq h6
 have hMK:∀ i,i∈K→M i=mg i:=fun i hi=>hm i (hKB i hi)
 refine ⟨fun _ _=>trivial,?_⟩
 rw [Oper.semAt_eq _ _ _ hd,hrun,hctr.1]
 refine ⟨fun e=>(by cases e),?_⟩
 classical
 obtain ⟨ρi,hρi⟩:∃ ρi:Rho,ρi=fun j=>if j∈K then ρ j else none:=⟨_,rfl⟩
 have hρid:∀ j,j∈K→ρi j=ρ j:=fun j hj=>by rw [hρi];simp [hj]
 have hρin:∀ j li,ρi j=some li→j∈K∧ρ j=some li:=fun j li h=>by
  rw [hρi] at h
  by_cases hj:j∈K
  · simp [hj] at h;exact ⟨hj,h⟩
  · simp [hj] at h
 have hrel:RelL h ρi xs vs:=⟨hx.1,fun i c v hc hv=>(hx.2 i c v hc hv).forget (ids:=K) hρid (za1 h1 hc)⟩
 have hOw:Ownd h ρi A w:=by
  refine ⟨fun j x hj=>?_,fun j hj=>?_,fun j li b q1 q2=>?_,fun j j' li li' b q1 q1' q2 q2'=>?_⟩
  · have hjK:j∈K:=Classical.byContradiction fun hn=>by rw [a2 j hn] at hj;cases hj
    obtain ⟨b,e1,e2⟩:=a1 j hjK
    rw [hj] at e1;cases e1
    exact (I.blk j x ((hMK j hjK).trans e2)).forget (ids:=K) hρid hjK (zfg h2 j x hj)
  · cases hp:ρi j with
    | none=>rfl
    | some li=>
     obtain ⟨hjK,_⟩:=hρin j li hp
     obtain ⟨b,e1,_⟩:=a1 j hjK
     rw [hj] at e1;cases e1
  · obtain ⟨_,q3⟩:=hρin j li q1
    obtain ⟨q4,q5,_⟩:=I.own j li b q3 q2
    exact ⟨q4,q5⟩
  · exact I.inj j j' li li' b (hρin j li q1).2 (hρin j' li' q1').2 q2 q2'
 refine zc4 ((hctr.2 h w ρi vs hrel I.hp hOw).mono fun en w' he=>?_)
 cases en with
 | panicked ch=>exact he.elim
 | outgrown=>exact he.elim
 | returned x=>
 obtain ⟨h',ρ2,p1,p2,p3,p4,p5,p6,p7,p8,p9,p10,p11⟩:=he
 let ρ':Rho:=fun j=>if j∈zaz B then ρ2 j else ρ j
 have hin:∀ j,j∈zaz B→ρ' j=ρ2 j:=fun j hj=>if_pos hj
 have hout:∀ j,j ∉ zaz B→ρ' j=ρ j:=fun j hj=>if_neg hj
 have hfr:∀ j,j∈zaz B→j ∉ K→ρ j=none:=fun j hj hjK=>by
  rcases zgd h7 j hj with q|q
  · exact absurd q hjK
  · exact I.dom j ((hm j hj).trans q)
 refine hK x h' ρ' w' (I.step (S:=fun j=>j∈zaz B) p1 p2 p3 p4 (fun kk hkk hS=>p5 kk hkk (fun ho=>by
  obtain ⟨j,li,q1,q2⟩:=ho
  obtain ⟨q3,q4⟩:=hρin j li q1
  exact hS j li (hKB j q3) q4 q2)) hout ?_ p6 p7 (fun j hj=>ziN hj) ?_ ?_ ?_ ?_) (p8.forget (ids:=zaz B) hin h3)
 · intro j li hj
   by_cases hjB:j∈zaz B
   · by_cases hjK:j∈K
     · obtain ⟨y,hy⟩:∃ y,mm B j=some y:=Option.isSome_iff_exists.1 (zdu.1 hjB)
       obtain ⟨li',e⟩:=(p9.blk j y hy).name
       exact ⟨li',(hin j hjB).trans e,p11 j li li' ((hρid j hjK).trans hj) e⟩
     · rw [hfr j hjB hjK] at hj;cases hj
   · exact ⟨li,(hout j hjB).trans hj,.inl rfl⟩
 · intro j hj hM
   rw [zfZ h5 hj] at hM
   have:=zdu.1 hj
   rw [hM] at this;cases this
 · intro j y hj hM
   rw [zfZ h5 hj] at hM
   exact (p9.blk j y hM).forget (ids:=zaz B) hin hj (zfg h4 j y hM)
 · intro j li b hj q1 q2
   rw [hin j hj] at q1
   rcases p10 j li b q1 q2 with ⟨j0,li0,q3,q4⟩|q3
   · obtain ⟨q5,q6⟩:=hρin j0 li0 q3
     exact .inl ⟨j0,li0,hKB j0 q5,q6,q4⟩
   · obtain ⟨q4,q5⟩:=p9.own j li b q1 q2
     exact .inr ⟨q3,q5,q4⟩
 · intro j j' li li' b hj hj' q1 q1' q2 q2'
   rw [hin j hj] at q1
   rw [hin j' hj'] at q1'
   exact p9.inj j j' li li' b q1 q1' q2 q2'
theorem zlS {h:Hp} {ρ:Rho} {K:List Nat}:∀ {cs:List AV},(zlT K cs).length=cs.length∧∀ (i:Nat) (c:AV) (v:Value),(zlT K cs)[i]? = some c→∃ c0,cs[i]? = some c0∧(Rel h ρ c0 v→Rel h ρ c v)
 | []=>⟨rfl,fun i c v h=>by simp [zlT] at h⟩
 | x::cs=>by
  obtain ⟨h1,h2⟩:=zlS (h:=h) (ρ:=ρ) (K:=K) (cs:=cs)
  refine ⟨by simp [zlT,h1],fun i c v hc=>?_⟩
  cases i with
  | zero=>
   refine ⟨x,rfl,fun hx=>?_⟩
   simp only [zlT,List.getElem?_cons_zero,Option.some.injEq] at hc
   subst hc
   split
   · split
     · exact .one _ _ (zc9 hx rfl).1
     · exact hx
   · exact hx
  | succ i=>
   simp only [zlT,List.getElem?_cons_succ] at hc
   exact h2 i c v hc
theorem zo2 {h:Hp} {ρ:Rho} {K:List Nat} {xs:List AV} {vs:List Value} (H:RelL h ρ xs vs):RelL h ρ (zqb K xs) vs:=by
 induction xs generalizing vs with
 | nil=>exact H
 | cons x xs ih=>
  obtain ⟨v,r,rfl,h1,h2⟩:=H.zdP
  refine RelL.cons ?_ (ih h2)
  split
  · cases h1 with
    | agg _ _ us hl hc=>
     obtain ⟨k1,k2⟩:=zlS (h:=h) (ρ:=ρ) (K:=K)
     refine .agg _ _ _ (by rw [hl,k1]) fun i c u hi hu=>?_
     obtain ⟨c0,e1,e2⟩:=k2 i c u hi
     exact e2 (hc i c0 u e1 hu)
  · exact h1
theorem zl7 (I:InvH N C h ρ F M g a w) {f:Operand} {args:Array Operand} {ts:Array TypeId} (ho:o.op = .call { callee:=.value f,args:=args,argTypes:=ts }) {val:Operand→AV} (hv:∀ y,y∈o.op.operands→Rel h ρ (val y) (a.eval y)) {own:List Nat} {rv:RV} {r:R}
 (hr:evalOp Γ own val mg o (some rv)=some r) (hm:∀ id,id∈r.rd→M id=mg id) (hc:∀ q,r.cs=some q→q) (hq:∀ gf xs,r.rq=some (gf,xs)→CtrG P gf xs rv.v rv.B):zkp P N C F M g a o w r.v r.wr:=by
 have hd:∀ c,o.op ≠ .defer c:=fun c e=>by rw [ho] at e;cases e
 have hf:=hv f (by rw [ho];simp [Op.operands,Call.operands])
 have hargs:=zee args.toList (fun x hx=>hv x (zed ho hx))
 unfold evalOp at hr
 simp only [ho] at hr
 cases hvf:val f <;> simp only [hvf] at hr <;> (try (cases hr;done))
 case fn k fs cs=>
  rw [hvf] at hf
  cases k <;> (try simp only [] at hr) <;> (try (cases hr;done))
  rename_i gf
  generalize hef:a.eval f=u at hf
  cases hf with
  | fn _ _ _ _ us ws hl1 hl2 hc1 hc2=>
  have hall:RelL h ρ (fs++(zfC val args.toList++cs)) (us++(args.toList.map a.eval++ws)):=RelL.append ⟨hl1,hc1⟩ (RelL.append hargs ⟨hl2,hc2⟩)
  unfold zpl at hr
  simp only [zdp] at hr
  cases htk:takes rv.B with
  | some id=>
   simp only [htk] at hr
   exact zpw I (zgz ho hef w) hd htk hr hm hq hall
  | none=>
  simp only [htk] at hr
  cases hKr:rv.K with
  | cons i0 K0=>
   simp only [hKr] at hr
   cases hhd:hidden (i0::K0) with
   | false=>
    simp only [hhd] at hr
    exact zpx I (zgz ho hef w) hd htk hr hm hq hall
   | true=>
   simp only [hhd] at hr
   cases hvl:zgQ mg (zqb (i0::K0) (fs++(zfC val args.toList++cs))) with
   | none=>simp only [hvl] at hr;cases hr
   | some q=>
   obtain ⟨xs',rd,c⟩:=q
   simp only [hvl] at hr
   obtain ⟨e1,e2,e3⟩:=zk1 hr
   exact zjE I (zgz ho hef w) hd hr hm (hq _ _ e2) (fun H2 hLe hH hrd=>zfs I hLe (zo2 hall) hvl (fun id hid=>by
    rcases e3 with e3|e3
    · subst e3;cases hid
    · exact hm id (e3▸hid)) (fun q hq=>hc q (e1.trans hq)) hH)
  | nil=>
  simp only [hKr] at hr
  cases hvl:zgQ mg (fs++(zfC val args.toList++cs)) with
  | none=>simp only [hvl] at hr;cases hr
  | some q=>
  obtain ⟨xs',rd,c⟩:=q
  simp only [hvl] at hr
  obtain ⟨e1,e2,e3⟩:=zk1 hr
  exact zjE I (zgz ho hef w) hd hr hm (hq _ _ e2) (fun H2 hLe hH hrd=>zfs I hLe hall hvl (fun id hid=>by
   rcases e3 with e3|e3
   · subst e3;cases hid
   · exact hm id (e3▸hid)) (fun q hq=>hc q (e1.trans hq)) hH)
 case clo k fs cs=>
  rw [hvf] at hf
  cases k <;> (try simp only [] at hr) <;> (try (cases hr;done))
  rename_i gf
  generalize hef:a.eval f=u at hf
  cases hf with
  | clo _ _ _ _ _ hf=>
  cases hf with
  | fn _ _ _ _ us ws hl1 hl2 hc1 hc2=>
  unfold zq9 at hr
  simp only [zdp] at hr
  cases htk:takes rv.B with
  | some id=>simp only [htk] at hr;cases hr
  | none=>
  simp only [htk] at hr
  cases hvl:zgQ mg (zfC val args.toList) with
  | none=>simp only [hvl] at hr;cases hr
  | some q=>
  obtain ⟨xs',rd,c⟩:=q
  simp only [hvl] at hr
  obtain ⟨e1,e2,e3⟩:=zk1 hr
  exact zjE I (zgz ho hef w) hd hr hm (hq _ _ e2) (fun H2 hLe hH hrd=>RelL.append (RelL.heap ⟨hl1,hc1⟩ hLe) (RelL.append (zfs I hLe hargs hvl (fun id hid=>by
   rcases e3 with e3|e3
   · subst e3;cases hid
   · exact hm id (e3▸hid)) (fun q hq=>hc q (e1.trans hq)) hH) (RelL.heap ⟨hl2,hc2⟩ hLe)))
end
end Go.Av
end
/- Regions: operations under guards; one after another; in any order. -/
section
set_option linter.all false
namespace Go.Av
def evO (F:Fr):Operand→AV
 | .tmp t=>F t
 | .const v=>ze3 v
 | .func f=>.fn (.func f) [] []
 | .global _=>.any
def zf2:AV→AV
 | .cnd _ v=>v
 | v=>v
def needs (F:Fr) (W:Bool):List Operand→List Prop
 | []=>[]
 | x::r=>match evO F x with
  | .cnd G _=>(W=true→G=true)::needs F W r
  | _=>needs F W r
inductive Gd where
 | free|on (W:Bool)
def guardOf (ops:List Oper) (F:Fr) (o:Oper):Option Gd:=match o.guard with
 | none=>some .free
 | some (j,pol)=>match nthN j ops with
  | some oj=>match oj.dst with
   | some d=>match F d with
    | .bool b=>match pol with
     | true=>some (.on b)
     | false=>some (.on (!b))
    | .cnd G (.bool b)=>match pol with
     | true=>some (.on (G && b))
     | false=>some (.on (G && !b))
    | _=>none
   | none=>none
  | none=>none
def BSim (x y:Blk):Prop:=∀ h ρ id w,zbN h ρ id x w→zbN h ρ id y w
theorem BSim.refl (x:Blk):BSim x x:=fun _ _ _ _ h=>h
theorem BSim.of_eq {x y:Blk} (h:x=y):BSim x y:=h▸BSim.refl x
def backs (mg:Mm) (W:Bool):List (Nat×Blk)→Option (List Prop)
 | []=>some []
 | (i,b)::r=>match mg i with
  | some b0=>match backs mg W r with
   | some l=>some ((W=false→BSim b0 b)::l)
   | none=>none
  | none=>none
structure OpRes where
 v:AV
 rd:List Nat
 wr:List (Nat×Blk)
 cs:List Prop
 rq:Option (Option Bool×FuncId×List AV×List (Nat×Blk))
def zep (F:Fr) (q:Prop) (x:Operand):Option (Bool×List Prop):=match evO F x with
 | .bool a=>some (a,[])
 | .cnd G (.bool a)=>some (a,[q→G=true])
 | _=>none
def zg8 (p a b:Bool) (x y:Operand):Option Bool:=match y with
 | .const (.bool false)=>some (p && a)
 | _=>match x with
  | .const (.bool true)=>some (p || b)
  | _=>some (bif p then a else b)
def zk2 (F:Fr) (c x y:Operand):Option (Bool×Option Bool×List Prop):=match evO F c with
 | .bool p=>match zep F (p=true) x with
  | some (a,l1)=>match zep F (p=false) y with
   | some (b,l2)=>match zg8 p a b x y with
    | some v=>match l1 with
     | []=>some (v,none,l2)
     | q::_=>some (v,none,q::l2)
    | none=>none
   | none=>none
  | none=>none
 | .cnd G (.bool p)=>match zep F (p=true) x with
  | some (a,l1)=>match zep F (p=false) y with
   | some (b,l2)=>match zg8 p a b x y with
    | some v=>match l1 with
     | []=>some (v,some G,l2)
     | q::_=>some (v,some G,q::l2)
    | none=>none
   | none=>none
  | none=>none
 | _=>none
def under (W:Bool):List Prop→List Prop
 | []=>[]
 | q::r=>(W=true→q)::under W r
def opR (Γ:Tys) (own:List Nat) (ops:List Oper) (F:Fr) (M:Mm) (o:Oper) (rv:Option RV):Option OpRes:=match guardOf ops F o with
 | none=>none
 | some .free=>match o.op with
  | .pick c x y=>match zk2 F c x y with
   | some (b,none,cs)=>some ⟨.bool b,[],[],cs,none⟩
   | _=>none
  | _=>match evalOp Γ own (evO F) M o rv with
   | some ⟨v,rd,wr,c,q⟩=>match c with
    | none=>match q with
     | none=>some ⟨v,rd,wr,[],none⟩
     | some (f,xs)=>some ⟨v,rd,wr,[],some (none,f,xs)⟩
    | some c=>match q with
     | none=>some ⟨v,rd,wr,[c],none⟩
     | some (f,xs)=>some ⟨v,rd,wr,[c],some (none,f,xs)⟩
   | none=>none
 | some (.on W)=>match o.op with
  | .pick c x y=>match zk2 F c x y with
   | some (b,none,cs)=>some ⟨.cnd W (.bool b),[],[],under W cs,none⟩
   | some (b,some G,cs)=>some ⟨.cnd W (.bool b),[],[],(W=true→G=true)::under W cs,none⟩
   | none=>none
  | _=>match evalOp Γ own (fun y=>zf2 (evO F y)) M o rv with
   | some ⟨v,rd,wr,c,q⟩=>match wr with
    | []=>match c with
     | none=>match q with
      | none=>some ⟨.cnd W v,rd,[],needs F W o.op.operands.toList,none⟩
      | some (f,xs)=>some ⟨.cnd W v,rd,[],needs F W o.op.operands.toList,some (some W,f,xs)⟩
     | some c=>match q with
      | none=>some ⟨.cnd W v,rd,[],(W=true→c)::needs F W o.op.operands.toList,none⟩
      | some (f,xs)=>some ⟨.cnd W v,rd,[],(W=true→c)::needs F W o.op.operands.toList,some (some W,f,xs)⟩
    | _::_=>match zoe rd (zaz wr) with
     | true=>match zf5 (zaz wr) with
      | true=>match backs M W wr with
       | some bs=>match c with
        | none=>match q with
         | some (f,xs)=>some ⟨.cnd W v,rd,wr,bs++needs F W o.op.operands.toList,some (some W,f,xs)⟩
         | none=>none
        | some _=>none
       | none=>none
      | false=>none
     | false=>none
   | none=>none
inductive AllP:List Prop→Prop
 | nil:AllP []
 | cons {q:Prop} {r:List Prop}:q→AllP r→AllP (q::r)
theorem AllP.mem {l:List Prop} (H:AllP l):∀ q,q∈l→q:=by
 induction H with
 | nil=>intro q hq;cases hq
 | cons h _ ih=>
  intro q hq
  cases hq with
  | head=>exact h
  | tail _ hq=>exact ih q hq
theorem zf6 {F:Fr} {W:Bool}:∀ {xs:List Operand} {x:Operand} {G:Bool} {v:AV},x∈xs→evO F x = .cnd G v→(W=true→G=true)∈needs F W xs
 | y::ys,x,G,v,hx,he=>by
  unfold needs
  rcases List.mem_cons.1 hx with rfl|hx
  · rw [he];exact List.mem_cons_self ..
  · have:=zf6 (W:=W) hx he
    split
    · exact List.mem_cons_of_mem _ this
    · exact this
theorem zi3 {W:Bool}:∀ {l:List Prop} {q:Prop},q∈l→(W=true→q)∈under W l
 | y::ys,q,hq=>by
  unfold under
  rcases List.mem_cons.1 hq with rfl|hq
  · exact List.mem_cons_self ..
  · exact List.mem_cons_of_mem _ (zi3 hq)
section
variable {P:Program} {N:Nat} {Γ:Tys} {own:List Nat} {ops:Array Oper}
def OpOk (Z:Ctx→Prop) (P:Program) (N:Nat) (ops:Array Oper) (F:Fr) (M:Mm) (o:Oper) (r:OpRes):Prop:=
 ∀ (C:Ctx),Z C→∀ (h:Hp) (ρ:Rho) (F':Fr) (M':Mm) (g:Nat) (a:Act) (w:World),InvH N C h ρ F' M' g a w→(∀ t,t∈o.looksAt ops→F' t=F t)→(∀ id,id∈r.rd→M' id=M id) →
  ∀ (rr:Option Nat) (n:Nat) (K:Act→World→Prop) (Q:Exit→Act→World→Prop),(∀ x h' ρ' w',InvH N C h' ρ' F' (updL M' r.wr) g a w'→Rel h' ρ' r.v x→K (a.put o.dst x) w') →
   if Region.wanted o (yielded ops a.tmps) then o.wpIn (Fw rr) n P a w K Q else (∀ f,o.about P w a.eval=some f→(Fw rr).fn f)∧K (a.put o.dst undef) w
theorem zoK {o:Oper} {t:Nat} (h:Operand.tmp t∈o.op.operands):t∈o.looksAt ops:=
 List.mem_append_left _ (List.mem_filterMap.2 ⟨.tmp t,by simpa using h,rfl⟩)
theorem zgf {C:Ctx} {h:Hp} {ρ:Rho} {F F':Fr} {M':Mm} {g:Nat} {a:Act} {w:World} {o:Oper} (I:InvH N C h ρ F' M' g a w) (hF:∀ t,t∈o.looksAt ops→F' t=F t) {y:Operand} (hy:y∈o.op.operands):Rel h ρ (evO F y) (a.eval y):=by
 cases y with
 | tmp t=>
  have:=I.slot t
  rw [hF t (zoK hy)] at this
  exact this
 | const v=>exact Rel.ze3 h ρ v
 | func f=>exact .fn _ _ _ _ [] [] rfl rfl (fun i c v hc=>by simp at hc) (fun i c v hc=>by simp at hc)
 | global g=>exact .any _ _
theorem zma {C:Ctx} {h:Hp} {ρ:Rho} {F':Fr} {M':Mm} {g:Nat} {a:Act} {w:World} (I:InvH N C h ρ F' M' g a w) {d:Nat} {b:Bool} (hb:Rel h ρ (.bool b) (a.tmps.getD d undef)):a.tmps[d]? = some (.bool b):=by
 cases hd:a.tmps[d]? with
 | none=>
  simp [hd] at hb
  cases hb
 | some x=>
  simp [hd] at hb
  cases hb;rfl
theorem zkQ {C:Ctx} {h:Hp} {ρ:Rho} {F F':Fr} {M':Mm} {g:Nat} {a:Act} {w:World} {o:Oper} (I:InvH N C h ρ F' M' g a w) (hF:∀ t,t∈o.looksAt ops→F' t=F t) {gd:Gd} (hg:guardOf ops.toList F o=some gd) :
 (gd = .free→Region.wanted o (yielded ops a.tmps)=true)∧∀ W,gd = .on W→Region.wanted o (yielded ops a.tmps)=W:=by
 unfold guardOf at hg
 cases ho:o.guard with
 | none=>
  simp only [ho] at hg;cases hg
  exact ⟨fun _=>by unfold Region.wanted;rw [ho],fun W h=>by cases h⟩
 | some jp=>
 obtain ⟨j,pol⟩:=jp
 simp only [ho] at hg
 cases hj:nthN j ops.toList with
 | none=>simp [hj] at hg
 | some oj=>
 simp only [hj] at hg
 cases hd:oj.dst with
 | none=>simp [hd] at hg
 | some d=>
 simp only [hd] at hg
 have hjo:ops[j]? = some oj:=by rw [← Array.getElem?_toList];exact zfA hj
 have hlook:d∈o.looksAt ops:=by
  refine List.mem_append_right _ ?_
  rw [ho];simp [hjo,hd]
 have hsl:=I.slot d
 rw [hF d hlook] at hsl
 have hw:∀ b,a.tmps[d]? = some (.bool b)→Region.wanted o (yielded ops a.tmps)=(b == pol):=by
  intro b hb
  unfold Region.wanted
  rw [ho]
  simp only [yielded,hjo,Option.bind_some,hd,hb]
  cases b <;> cases pol <;> rfl
 have hun:a.tmps.getD d undef=undef→Region.wanted o (yielded ops a.tmps)=false:=by
  intro hu
  unfold Region.wanted
  rw [ho]
  have:yielded ops a.tmps j=none:=by
   unfold yielded
   simp only [hjo,Option.bind_some,hd]
   cases ht:a.tmps[d]? with
   | none=>rfl
   | some x=>
    simp [ht] at hu
    subst hu;rfl
  simp only [this]
  rfl
 cases hFd:F d <;> simp only [hFd] at hg <;> (try (cases hg;done))
 case bool b=>
  rw [hFd] at hsl
  have:=hw b (zma I hsl)
  cases pol <;> simp only [] at hg <;> cases hg <;> refine ⟨fun h=>(by cases h),fun W h=>?_⟩ <;> cases h <;> rw [this] <;> cases b <;> rfl
 case cnd G v=>
  rw [hFd] at hsl
  cases v <;> simp only [] at hg <;> (try (cases hg;done))
  rename_i b
  cases hsl with
  | cnd _ _ _ _ ht hf=>
  cases G with
  | true=>
   have:=hw b (zma I (ht rfl))
   cases pol <;> simp only [] at hg <;> cases hg <;> refine ⟨fun h=>(by cases h),fun W h=>?_⟩ <;> cases h <;> rw [this] <;> cases b <;> rfl
  | false=>
   have:=hun (hf rfl)
   cases pol <;> simp only [] at hg <;> cases hg <;> refine ⟨fun h=>(by cases h),fun W h=>?_⟩ <;> cases h <;> rw [this] <;> rfl
theorem znT {p a b v:Bool} {x y:Operand} (h:zg8 p a b x y=some v) (hx:∀ u,x = .const (.bool u)→a=u) (hy:∀ u,y = .const (.bool u)→b=u):v=bif p then a else b:=by
 unfold zg8 at h
 split at h
 · cases h
   have:=hy false rfl
   subst this
   cases p <;> rfl
 · split at h
   · cases h
     have:=hx true rfl
     subst this
     cases p <;> rfl
   · cases h;rfl
theorem zfx {C:Ctx} {h:Hp} {ρ:Rho} {F F':Fr} {M':Mm} {g:Nat} {a:Act} {w:World} {o:Oper} (I:InvH N C h ρ F' M' g a w) (hF:∀ t,t∈o.looksAt ops→F' t=F t) {y:Operand} (hy:y∈o.op.operands) {q:Prop} {b:Bool} {l:List Prop}
 (hp:zep F q y=some (b,l)):l.length≤1∧((∀ p,p∈l→p)→q→a.eval y = .bool b)∧∀ u,y = .const (.bool u)→b=u:=by
 have hr:=zgf I hF hy
 unfold zep at hp
 cases he:evO F y <;> simp only [he] at hp <;> (try (cases hp;done))
 case bool b'=>
  cases hp
  rw [he] at hr
  refine ⟨by simp,fun _ _=>?_,fun u hu=>?_⟩
  · generalize a.eval y=z at hr;cases hr;rfl
  · subst hu;simp [evO,ze3] at he;exact he.symm
 case cnd G v=>
  cases v <;> simp only [] at hp <;> (try (cases hp;done))
  rename_i b'
  cases hp
  rw [he] at hr
  refine ⟨by simp,fun hl hq=>?_,fun u hu=>?_⟩
  · cases hr with
    | cnd _ _ _ _ ht hf=>
    have:=ht (hl (q→G=true) (by simp) hq)
    generalize a.eval y=z at this;cases this;rfl
  · subst hu;simp [evO,ze3] at he
theorem zfH {C:Ctx} {h:Hp} {ρ:Rho} {F F':Fr} {M':Mm} {g:Nat} {a:Act} {w:World} {o:Oper} {c x y:Operand} (I:InvH N C h ρ F' M' g a w) (hF:∀ t,t∈o.looksAt ops→F' t=F t) (ho:o.op = .pick c x y) {v:Bool} {G:Option Bool} {l:List Prop}
 (hp:zk2 F c x y=some (v,G,l)) (hl:∀ q,q∈l→q) (hG:∀ b,G=some b→b=true):(execOp a.eval o).run P w = .ok (.value (.bool v)) w:=by
 have hc:c∈o.op.operands:=by rw [ho];simp [Op.operands]
 have hx:x∈o.op.operands:=by rw [ho];simp [Op.operands]
 have hy:y∈o.op.operands:=by rw [ho];simp [Op.operands]
 have hcr:=zgf I hF hc
 have key:∀ p a' b' l1 l2,a.eval c = .bool p→zep F (p=true) x=some (a',l1)→zep F (p=false) y=some (b',l2)→zg8 p a' b' x y=some v→(∀ q,q∈l1→q)→(∀ q,q∈l2→q) →
  (execOp a.eval o).run P w = .ok (.value (.bool v)) w:=by
  intro p a' b' l1 l2 he h1 h2 h3 hl1 hl2
  obtain ⟨_,ha,hau⟩:=zfx I hF hx h1
  obtain ⟨_,hb,hbu⟩:=zfx I hF hy h2
  have hv:=znT h3 hau hbu
  subst hv
  unfold execOp
  simp only [ho,he]
  cases p with
  | true=>rw [ha hl1 rfl];rfl
  | false=>rw [hb hl2 rfl];rfl
 have fin:∀ p G',a.eval c = .bool p→(match zep F (p=true) x with
  | some (a,l1)=>match zep F (p=false) y with
   | some (b,l2)=>match zg8 p a b x y with
    | some v=>match l1 with
     | []=>some (v,G',l2)
     | q::_=>some (v,G',q::l2)
    | none=>none
   | none=>none
  | none=>none)=some (v,G,l)→(execOp a.eval o).run P w = .ok (.value (.bool v)) w:=by
  intro p G' he hp
  cases h1:zep F (p=true) x with
  | none=>simp [h1] at hp
  | some q1=>
  obtain ⟨a',l1⟩:=q1
  simp only [h1] at hp
  cases h2:zep F (p=false) y with
  | none=>simp [h2] at hp
  | some q2=>
  obtain ⟨b',l2⟩:=q2
  simp only [h2] at hp
  cases h3:zg8 p a' b' x y with
  | none=>simp [h3] at hp
  | some v'=>
  simp only [h3] at hp
  have hlen:=(zfx I hF hx h1).1
  cases l1 with
  | nil=>
   simp only [] at hp;cases hp
   exact key p a' b' [] _ he h1 h2 h3 nofun hl
  | cons q1 l1=>
   simp only [] at hp;cases hp
   have:l1=[]:=by simpa using hlen
   subst this
   exact key p a' b' [q1] _ he h1 h2 h3 (fun q hq=>hl q (by simp at hq;simp [hq])) (fun q hq=>hl q (by simp [hq]))
 unfold zk2 at hp
 cases hec:evO F c <;> simp only [hec] at hp <;> (try (cases hp;done))
 case bool p=>
  rw [hec] at hcr
  exact fin p none (by generalize a.eval c=z at hcr;cases hcr;rfl) hp
 case cnd G0 v0=>
  cases v0 <;> simp only [] at hp <;> (try (cases hp;done))
  rename_i p
  rw [hec] at hcr
  have hG0:G=some G0:=by
   split at hp
   · split at hp
     · split at hp
       · split at hp <;> cases hp <;> rfl
       · cases hp
     · cases hp
   · cases hp
  have:=hG _ hG0
  subst this
  cases hcr with
  | cnd _ _ _ _ ht hf=>
  have:=ht rfl
  exact fin p (some true) (by generalize a.eval c=z at this;cases this;rfl) hp
theorem InvH.bsim {C:Ctx} {h:Hp} {ρ:Rho} {F:Fr} {g:Nat} {a:Act} {w:World}:∀ {wr:List (Nat×Blk)} {M:Mm},zf5 (zaz wr)=true→(∀ i,i∈zaz wr→∃ b0 b,M i=some b0∧mm wr i=some b∧BSim b0 b)→InvH N C h ρ F M g a w→InvH N C h ρ F (updL M wr) g a w:=by
 intro wr M hn H I
 refine { I with blk:=fun id x hx=>?_,dom:=fun id hx=>?_ }
 · by_cases hi:id∈zaz wr
   · rw [zfZ hn hi] at hx
     obtain ⟨b0,b,h1,h2,h3⟩:=H id hi
     rw [hx] at h2;cases h2
     exact h3 _ _ _ _ (I.blk id b0 h1)
   · rw [ziN hi] at hx
     exact I.blk id x hx
 · by_cases hi:id∈zaz wr
   · rw [zfZ hn hi] at hx
     obtain ⟨b0,b,h1,h2,h3⟩:=H id hi
     rw [hx] at h2;cases h2
   · rw [ziN hi] at hx
     exact I.dom id hx
theorem zkh {mg:Mm} {W:Bool}:∀ {wr:List (Nat×Blk)} {bs:List Prop},backs mg W wr=some bs→(∀ q,q∈bs→q)→W=false→zf5 (zaz wr)=true→∀ i,i∈zaz wr→∃ b0 b,mg i=some b0∧mm wr i=some b∧BSim b0 b
 | [],bs,_,_,_,_,i,hi=>by cases hi
 | (j,b)::r,bs,h,hq,hW,hn,i,hi=>by
  obtain ⟨n1,n2⟩:=zgB (i:=j) (r:=zaz r) hn
  simp only [backs] at h
  split at h
  · rename_i b0 hb0
    split at h
    · rename_i l hl
      cases h
      rcases List.mem_cons.1 hi with rfl|h3
      · exact ⟨b0,b,hb0,by simp [mm,upd],hq _ (List.mem_cons_self ..) hW⟩
      · obtain ⟨c0,c,e1,e2,e3⟩:=zkh hl (fun q hq'=>hq q (List.mem_cons_of_mem _ hq')) hW n2 i h3
        refine ⟨c0,c,e1,?_,e3⟩
        have hne:i≠j:=fun e=>n1 (e▸h3)
        simp only [mm]
        rw [zae _ _ hne]
        exact e2
    · cases h
  · cases h
theorem zlC (hΓ:zbC P Γ) (hdep:8≤P.depth) {F:Fr} {M:Mm} {o:Oper} {rv:Option RV} {r:OpRes} (hr:opR Γ own ops.toList F M o rv=some r) (hcs:∀ q,q∈r.cs→q)
 (hrq:∀ gd f xs rv0,r.rq=some (gd,f,xs)→rv=some rv0→(∀ W,gd=some W→W=true)→CtrG P f xs rv0.v rv0.B) (hnd:∀ c,o.op ≠ .defer c):OpOk (FzOk own) P N ops F M o r:=by
 intro C hz h ρ F' M' g a w I hF hM rr n K Q hK
 unfold opR at hr
 cases hgd:guardOf ops.toList F o with
 | none=>rw [hgd] at hr;simp at hr
 | some gd=>
 obtain ⟨hfree,hon⟩:=zkQ I hF hgd
 rw [hgd] at hr
 -- what a sound operation gives
 have fin:∀ {val:Operand→AV} {r0:R},evalOp Γ own val M o rv=some r0→(∀ y,y∈o.op.operands→Rel h ρ (val y) (a.eval y))→(∀ id,id∈r0.rd→M' id=M id)→(∀ q,r0.cs=some q→q) →
  (∀ f xs rv0,r0.rq=some (f,xs)→rv=some rv0→CtrG P f xs rv0.v rv0.B)→zkp P N C F' M' g a o w r0.v r0.wr:=by
  intro val r0 he hv hm hc hq
  cases hcall:ziz o.op with
  | false=>exact (zl2 hΓ hdep I hv he hm hc hcall hz).zm1 hnd
  | true=>
   have:∃ f args ts,o.op = .call ⟨.value f,args,ts⟩:=by
    cases ho:o.op <;> rw [ho] at hcall <;> (try (simp [ziz] at hcall;done))
    rename_i c
    obtain ⟨callee,args,ts⟩:=c
    cases callee <;> first|exact ⟨_,_,_,rfl⟩|(simp [ziz] at hcall;done)
   obtain ⟨f,args,ts,ho⟩:=this
   cases rv with
   | none=>
    exfalso
    unfold evalOp at he
    simp only [ho] at he
    split at he <;> simp [zpl,zq9] at he
   | some rv0=>exact zl7 I ho hv he hm hc (fun f xs h=>hq f xs rv0 h rfl)
 cases gd with
 | free=>
  rw [if_pos (hfree rfl)]
  simp only [] at hr
  split at hr
  · rename_i c x y ho
    split at hr
    · rename_i b cs hp
      cases hr
      have hrun:=zfH (P:=P) (w:=w) I hF ho hp hcs (fun b hb=>by cases hb)
      exact (Good.same (r:=⟨.bool b,[],[],none,none⟩) I (.inl hrun) rfl (.bool _ _)).zm1 hnd rr n K Q hK
    · cases hr
  · split at hr
    · rename_i v rd wr c q he
      have hv:∀ y,y∈o.op.operands→Rel h ρ (evO F y) (a.eval y):=fun y hy=>zgf I hF hy
      cases c with
      | none=>
       cases q with
       | none=>simp only [] at hr;cases hr;exact fin he hv hM nofun (fun f xs rv0 hq=>by cases hq) rr n K Q hK
       | some fx=>simp only [] at hr;cases hr;exact fin he hv hM nofun (fun f xs rv0 hq hv=>by cases hq;exact hrq none _ _ rv0 rfl hv (fun W hW=>by cases hW)) rr n K Q hK
      | some c=>
       have hc:∀ q,some c=some q→q:=fun q hq=>by
        cases hq
        cases q <;> simp only [] at hr <;> cases hr <;> exact hcs _ (by simp)
       cases q with
       | none=>simp only [] at hr;cases hr;exact fin he hv hM hc (fun f xs rv0 hq=>by cases hq) rr n K Q hK
       | some fx=>simp only [] at hr;cases hr;exact fin he hv hM hc (fun f xs rv0 hq hv=>by cases hq;exact hrq none _ _ rv0 rfl hv (fun W hW=>by cases hW)) rr n K Q hK
    · cases hr
 | on W=>
  have hw:=hon W rfl
  rw [hw]
  simp only [] at hr
  split at hr
  · rename_i c x y ho
    split at hr
    · rename_i b cs hp
      cases hr
      cases W with
      | false=>exact ⟨fun _ _=>trivial,hK _ h ρ w I (.cnd _ _ _ _ (fun e=>by cases e) (fun _=>rfl))⟩
      | true=>
       rw [if_pos rfl]
       have hrun:=zfH (P:=P) (w:=w) I hF ho hp (fun q hq=>hcs _ (zi3 hq) rfl) (fun b hb=>by cases hb)
       exact (Good.same (r:=⟨.cnd true (.bool b),[],[],none,none⟩) I (.inl hrun) rfl (.cnd _ _ _ _ (fun _=>.bool _ _) (fun e=>by cases e))).zm1 hnd rr n K Q hK
    · rename_i b G cs hp
      cases hr
      cases W with
      | false=>exact ⟨fun _ _=>trivial,hK _ h ρ w I (.cnd _ _ _ _ (fun e=>by cases e) (fun _=>rfl))⟩
      | true=>
       rw [if_pos rfl]
       have hrun:=zfH (P:=P) (w:=w) I hF ho hp (fun q hq=>hcs _ (List.mem_cons_of_mem _ (zi3 hq)) rfl) (fun b hb=>by cases hb;exact hcs _ (List.mem_cons_self ..) rfl)
       exact (Good.same (r:=⟨.cnd true (.bool b),[],[],none,none⟩) I (.inl hrun) rfl (.cnd _ _ _ _ (fun _=>.bool _ _) (fun e=>by cases e))).zm1 hnd rr n K Q hK
    · cases hr
  · split at hr
    · rename_i v rd wr c q he
      cases wr with
      | cons x0 l0=>
       obtain ⟨wr,hwr⟩:∃ wr,x0::l0=wr:=⟨_,rfl⟩
       simp only [] at hr
       rw [hwr] at hr he
       split at hr
       · rename_i ha
         split at hr
         · rename_i hn
           split at hr
           · rename_i bs hbs
             split at hr
             · split at hr
               · rename_i f xs
                 cases hr
                 have hkm:∀ i,i∈zaz wr→M' i=M i:=fun i hi=>hM i (ziq ha i hi)
                 cases W with
                 | false=>
                  refine ⟨fun _ _=>trivial,hK _ h ρ w (I.bsim hn (fun i hi=>?_)) (.cnd _ _ _ _ (fun e=>by cases e) (fun _=>rfl))⟩
                  obtain ⟨b0,b,e1,e2,e3⟩:=zkh hbs (fun q hq=>hcs q (List.mem_append_left _ hq)) rfl hn i hi
                  exact ⟨b0,b,(hkm i hi).trans e1,e2,e3⟩
                 | true=>
                  rw [if_pos rfl]
                  have hv:∀ y,y∈o.op.operands→Rel h ρ (zf2 (evO F y)) (a.eval y):=fun y hy=>by
                   have:=zgf I hF hy
                   cases he:evO F y <;> rw [he] at this <;> simp only [zf2] <;> try exact this
                   rename_i G u
                   cases this with
                   | cnd _ _ _ _ ht hf=>exact ht (hcs _ (List.mem_append_right _ (zf6 (by simpa using hy) he)) rfl)
                  refine fin he hv hM nofun (fun f xs rv0 hq0 hrv0=>by cases hq0;exact hrq (some true) f xs rv0 rfl hrv0 (fun W hW=>by cases hW;rfl)) rr n K Q (fun x h' ρ' w' I' hr'=>hK x h' ρ' w' I' ?_)
                  exact .cnd _ _ _ _ (fun _=>hr') (fun e=>by cases e)
               · cases hr
             · cases hr
           · cases hr
         · cases hr
       · cases hr
      | nil=>
      simp only [] at hr
      have hrv:r.v = .cnd W v∧r.wr=[]∧r.rd=rd:=by
       cases c <;> cases q <;> simp only [] at hr <;> cases hr <;> exact ⟨rfl,rfl,rfl⟩
      obtain ⟨e1,e2,e3⟩:=hrv
      cases W with
      | false=>exact ⟨fun _ _=>trivial,hK _ h ρ w (by rw [e2];exact I) (by rw [e1];exact .cnd _ _ _ _ (fun e=>by cases e) (fun _=>rfl))⟩
      | true=>
       rw [if_pos rfl]
       have hneed:∀ q,q∈needs F true o.op.operands.toList→q:=fun q0 hq0=>by
        cases c <;> cases q <;> simp only [] at hr <;> cases hr <;> first|exact hcs _ hq0|exact hcs _ (List.mem_cons_of_mem _ hq0)
       have hv:∀ y,y∈o.op.operands→Rel h ρ (zf2 (evO F y)) (a.eval y):=fun y hy=>by
        have:=zgf I hF hy
        cases he:evO F y <;> rw [he] at this <;> simp only [zf2] <;> try exact this
        rename_i G u
        cases this with
        | cnd _ _ _ _ ht hf=>exact ht (hneed _ (zf6 (by simpa using hy) he) rfl)
       have hc:∀ q,c=some q→q:=fun q0 hq0=>by
        subst hq0
        cases q <;> simp only [] at hr <;> cases hr <;> first|exact hcs _ (List.mem_cons_self ..) rfl|exact hcs _ (List.mem_cons_self ..) trivial
       have hq:∀ f xs rv0,q=some (f,xs)→rv=some rv0→CtrG P f xs rv0.v rv0.B:=fun f xs rv0 hq0 hrv0=>by
        subst hq0
        cases c <;> simp only [] at hr <;> cases hr <;> exact hrq (some true) f xs rv0 rfl hrv0 (fun W hW=>by cases hW;rfl)
       refine fin he hv (fun id hid=>hM id (by rw [e3];exact hid)) hc hq rr n K Q (fun x h' ρ' w' I' hr'=>hK x h' ρ' w' (by rw [e2];exact I') ?_)
       rw [e1]
       exact .cnd _ _ _ _ (fun _=>hr') (fun e=>by cases e)
    · cases hr
end
end Go.Av
end
/- Regions, part 2: one after another; in any order. -/
section
set_option linter.all false
namespace Go.Av
def fr:List (Nat×AV)→Fr
 | []=>fun _=>.any
 | (d,v)::r=>put (fr r) d v
def setL:Option Tmp→AV→List (Nat×AV)→List (Nat×AV)
 | some d,v,L=>(d,v)::L
 | none,_,L=>L
theorem zo7 (d:Option Tmp) (v:AV) (L:List (Nat×AV)):fr (setL d v L)=putO (fr L) d v:=by cases d <;> rfl
def zmC:Op→Bool
 | .defer _=>true
 | _=>false
structure Acc where
 L:List (Nat×AV)
 M:List (Nat×Blk)
 cs:List Prop
 rq:List (Option Bool×FuncId×(List AV×List (Nat×Blk))×RV)
 ft:List (List Nat×List Nat)
def appP:List Prop→List Prop→List Prop
 | [],l=>l
 | q::r,l=>q::appP r l
def zo8 {β:Type}:Blk→(Blk→β)→β
 | .cells cs,f=>zeu cs fun cs=>f (.cells cs)
 | .buf ty sz n e,f=>f (.buf ty sz n e)
 | .map z dom e n,f=>f (.map z dom e n)
 | .dead,f=>f .dead
 | .iter e cur Pl,f=>f (.iter e cur Pl)
 | .bufk ty sz n c e,f=>f (.bufk ty sz n c e)
 | .grid tS ty sz n m e,f=>f (.grid tS ty sz n m e)
 | .gmap ty sz n dom m e out,f=>f (.gmap ty sz n dom m e out)
 | .rows ty sz hd dom m e out,f=>f (.rows ty sz hd dom m e out)
theorem zlY {β:Type} (b:Blk) (f:Blk→β):zo8 b f=f b:=by cases b <;> simp only [zo8,zdp]
def zjt {α β:Type}:List α→(List α→β)→β
 | [],f=>f []
 | x::r,f=>zjt r fun r=>f (x::r)
theorem zlX {α β:Type}:∀ (l:List α) (f:List α→β),zjt l f=f l
 | [],f=>rfl
 | x::r,f=>by simp only [zjt,zlX r]
def zlW {β:Type}:List Prop→(List Prop→β)→β
 | [],f=>f []
 | x::r,f=>zlW r fun r=>f (x::r)
theorem zlV {β:Type}:∀ (l:List Prop) (f:List Prop→β),zlW l f=f l
 | [],f=>rfl
 | x::r,f=>by simp only [zlW,zlV r]
def zqW {β:Type} (o:Option Tmp) (v:AV) (L:List (Nat×AV)) (f:List (Nat×AV)→β):β:=match o with
 | some d=>f ((d,v)::L)
 | none=>f L
theorem zpY {β:Type} (o:Option Tmp) (v:AV) (L:List (Nat×AV)) (f:List (Nat×AV)→β):zqW o v L f=f (setL o v L):=by cases o <;> rfl
def zow {β:Type}:List (Nat×Blk)→List (Nat×Blk)→(List (Nat×Blk)→β)→β
 | [],M,f=>f M
 | (i,b)::r,M,f=>zo8 b fun b=>zow r ((i,b)::M) f
def zk8:List (Nat×Blk)→List (Nat×Blk)→List (Nat×Blk)
 | [],M=>M
 | (i,b)::r,M=>zk8 r ((i,b)::M)
theorem zna {β:Type}:∀ (wr M:List (Nat×Blk)) (f:List (Nat×Blk)→β),zow wr M f=f (zk8 wr M)
 | [],M,f=>rfl
 | (i,b)::r,M,f=>by simp only [zow,zlY,zk8,zna r]
theorem zkG:∀ (wr M:List (Nat×Blk)),mm (zk8 wr M)=updL (mm M) wr
 | [],M=>rfl
 | (i,b)::r,M=>by simp only [zk8,updL,zkG r];rfl
def zoY:List (Nat×Blk)→List Nat
 | []=>[]
 | (i,_)::r=>i::zoY r
theorem zkN:∀ (wr:List (Nat×Blk)),zoY wr=wr.map (·.1)
 | []=>rfl
 | (i,b)::r=>by simp [zoY,zkN r]
def runR (Γ:Tys) (own:List Nat) (ops:List Oper):List Oper→List RV→List (Nat×AV)→List (Nat×Blk)→Option Acc
 | [],rvs,L,M=>match rvs with
  | []=>some ⟨L,M,[],[],[]⟩
  | _::_=>none
 | o::os,rvs,L,M=>match ziz o.op with
  | true=>match rvs with
   | []=>none
   | rv::rvs=>match opR Γ own ops (fr L) (mm M) o (some rv) with
    | some ⟨v,rd,wr,cs,q⟩=>match q with
     | none=>none
     | some (gd,f,xs)=>zev v fun v=>zqW o.dst v L fun L1=>zow wr M fun M1=>match runR Γ own ops os rvs L1 M1 with
      | some ⟨L',M',cs',rq',ft'⟩=>zjt rd fun rd=>zjt (zoY wr) fun ws=>zlW (appP cs cs') fun cs=>some ⟨L',M',cs,(gd,f,xs,rv)::rq',(rd,ws)::ft'⟩
      | none=>none
    | none=>none
  | false=>match zmC o.op with
   | true=>none
   | false=>match opR Γ own ops (fr L) (mm M) o none with
    | some ⟨v,rd,wr,cs,q⟩=>match q with
     | some _=>none
     | none=>zev v fun v=>zqW o.dst v L fun L1=>zow wr M fun M1=>match runR Γ own ops os rvs L1 M1 with
      | some ⟨L',M',cs',rq',ft'⟩=>zjt rd fun rd=>zjt (zoY wr) fun ws=>zlW (appP cs cs') fun cs=>some ⟨L',M',cs,rq',(rd,ws)::ft'⟩
      | none=>none
    | _=>none
inductive RqOk (P:Program):List (Option Bool×FuncId×(List AV×List (Nat×Blk))×RV)→Prop
 | nil:RqOk P []
 | free {f:FuncId} {xs:List AV×List (Nat×Blk)} {v:AV} {B:List (Nat×Blk)} {k:Nat} {K:List Nat} {r:List (Option Bool×FuncId×(List AV×List (Nat×Blk))×RV)}:CtrG P f xs v B→RqOk P r→RqOk P ((none,f,xs,⟨v,B,k,K⟩)::r)
 | on {W:Bool} {f:FuncId} {xs:List AV×List (Nat×Blk)} {v:AV} {B:List (Nat×Blk)} {k:Nat} {K:List Nat} {r:List (Option Bool×FuncId×(List AV×List (Nat×Blk))×RV)}:(W=true→CtrG P f xs v B)→RqOk P r→RqOk P ((some W,f,xs,⟨v,B,k,K⟩)::r)
theorem zdU:∀ {a b:List Prop} {q:Prop},q∈appP a b↔q∈a∨q∈b
 | [],b,q=>by simp [appP]
 | x::a,b,q=>by simp [appP,zdU,or_assoc]
inductive Trace (Z:Ctx→Prop) (P:Program) (N:Nat) (ops:Array Oper):Fr→Mm→List Oper→List OpRes→Fr→Mm→Prop
 | nil (F:Fr) (M:Mm):Trace Z P N ops F M [] [] F M
 | cons {F:Fr} {M:Mm} {o:Oper} {r:OpRes} {os:List Oper} {rs:List OpRes} {F':Fr} {M':Mm}:OpOk Z P N ops F M o r→Trace Z P N ops (putO F o.dst r.v) (updL M r.wr) os rs F' M'→Trace Z P N ops F M (o::os) (r::rs) F' M'
section
variable {P:Program} {N:Nat} {Γ:Tys} {own:List Nat} {ops:Array Oper}
theorem zda (hΓ:zbC P Γ) (hdep:8≤P.depth):∀ (os:List Oper) (rvs:List RV) (L:List (Nat×AV)) (M:List (Nat×Blk)) {A:Acc},runR Γ own ops.toList os rvs L M=some A→(∀ q,q∈A.cs→q)→RqOk P A.rq →
 ∃ rs,Trace (FzOk own) P N ops (fr L) (mm M) os rs (fr A.L) (mm A.M)∧A.ft=rs.map (fun r=>(r.rd,r.wr.map (·.1)))
 | [],rvs,L,M,A,hr,_,_=>by
  unfold runR at hr
  cases rvs with
  | nil=>simp only [] at hr;cases hr;exact ⟨[],.nil _ _,rfl⟩
  | cons=>simp at hr
 | o::os,rvs,L,M,A,hr,hcs,hrq=>by
  unfold runR at hr
  simp only [zge,zdp,zlX,zlV,zlY,zpY,zna] at hr
  cases hcall:ziz o.op with
  | true=>
   simp only [hcall] at hr
   have hnd:∀ c,o.op ≠ .defer c:=fun c e=>by rw [e] at hcall;simp [ziz] at hcall
   cases rvs with
   | nil=>simp at hr
   | cons rv rvs=>
   simp only [] at hr
   split at hr
   · rename_i v rd wr cs q hop
     cases q with
     | none=>simp at hr
     | some q=>
     obtain ⟨gd,f,xs⟩:=q
     simp only [] at hr
     cases hrun:runR Γ own ops.toList os rvs (setL o.dst v L) (zk8 wr M) with
     | none=>simp [hrun] at hr
     | some B=>
     obtain ⟨L',M',cs',rq',ft'⟩:=B
     simp only [hrun] at hr
     cases hr
     have hq:RqOk P rq'∧((∀ W,gd=some W→W=true)→CtrG P f xs rv.v rv.B):=by
      cases hrq with
      | free h1 h2=>exact ⟨h2,fun _=>h1⟩
      | on h1 h2=>exact ⟨h2,fun h=>h1 (h _ rfl)⟩
     obtain ⟨rs,hT,hft⟩:=zda hΓ hdep os rvs (setL o.dst v L) (zk8 wr M) hrun (fun q hq=>hcs q (zdU.2 (.inr hq))) hq.1
     refine ⟨⟨v,rd,wr,cs,some (gd,f,xs)⟩::rs,.cons (zlC hΓ hdep hop (fun q hq=>hcs q (zdU.2 (.inl hq))) (fun gd' f' xs' rv0 h hrv0=>by cases h;cases hrv0;exact hq.2) hnd) ?_,by simpa [zkN] using hft⟩
     rw [zo7,zkG] at hT
     exact hT
   · cases hr
  | false=>
   simp only [hcall] at hr
   cases hdf:zmC o.op with
   | true=>simp [hdf] at hr
   | false=>
   simp only [hdf] at hr
   have hnd:∀ c,o.op ≠ .defer c:=fun c e=>by rw [e] at hdf;simp [zmC] at hdf
   split at hr
   · rename_i v rd wr cs q hop
     cases q with
     | some=>simp at hr
     | none=>
     simp only [] at hr
     cases hrun:runR Γ own ops.toList os rvs (setL o.dst v L) (zk8 wr M) with
     | none=>simp [hrun] at hr
     | some B=>
     obtain ⟨L',M',cs',rq',ft'⟩:=B
     simp only [hrun] at hr
     cases hr
     obtain ⟨rs,hT,hft⟩:=zda hΓ hdep os rvs (setL o.dst v L) (zk8 wr M) hrun (fun q hq=>hcs q (zdU.2 (.inr hq))) hrq
     refine ⟨⟨v,rd,wr,cs,none⟩::rs,.cons (zlC hΓ hdep hop (fun q hq=>hcs q (zdU.2 (.inl hq))) (fun gd f xs rv0 h=>by cases h) hnd) ?_,by simpa [zkN] using hft⟩
     rw [zo7,zkG] at hT
     exact hT
   · cases hr
theorem Trace.lex {F F':Fr} {M M':Mm} {os:List Oper} {rs:List OpRes} {Z:Ctx→Prop} (T:Trace Z P N ops F M os rs F' M') {C:Ctx} (hZ:Z C) {g:Nat} {rr:Option Nat} {n:Nat} {Q:Exit→Act→World→Prop}
 (hQ:∀ h ρ a w,InvH N C h ρ F' M' g a w→Q .normal a w):∀ (k:Nat) (h:Hp) (ρ:Rho) (a:Act) (w:World),InvH N C h ρ F M g a w→(∀ o,o∈os→∀ d,o.dst=some d→d<N)→(∀ j,os[j]? = ops[k+j]? ∨ os.length≤j) →
  wpOpsIn (Fw rr) n P ops Q (List.range' k os.length) a w:=by
 induction T with
 | nil F M=>intro k h ρ a w I _ _;exact hQ h ρ a w I
 | cons hop _ ih=>
  rename_i F M o r os rs F' M' T'
  intro k h ρ a w I hd hos
  have h0:ops[k]? = some o:=by
   rcases hos 0 with e|e
   · simpa using e.symm
   · simp at e
  simp only [List.length_cons,List.range'_succ]
  rw [wpOpsIn_cons]
  unfold wpOpIn
  simp only [h0]
  refine hop C hZ h ρ F M g a w I (fun _ _=>rfl) (fun _ _=>rfl) rr n _ Q (fun x h' ρ' w' I' hv=>ih hQ (k+1) h' ρ' _ w' (I'.put (fun d hd'=>hd o (List.mem_cons_self ..) d hd') hv) (fun o' ho'=>hd o' (List.mem_cons_of_mem _ ho')) (fun j=>?_))
  rcases hos (j+1) with e|e
  · left;simpa [Nat.add_assoc,Nat.add_comm 1 j] using e
  · right;simpa using e
end
def zij (j:Nat):List Edge→Bool
 | []=>true
 | e::r=>match Region.binds .any e with
  | true=>match Nat.blt e.on j with
   | true=>zij j r
   | false=>false
  | false=>zij j r
def zd8 (ms:List Nat):List Edge→Nat
 | []=>0
 | e::r=>match Region.binds .any e with
  | true=>2 ^ e.on ||| (ms.getD e.on 0 ||| zd8 ms r)
  | false=>zd8 ms r
structure Item where
 dst:Option Nat
 looks:List Nat
 rd:List Nat
 wr:List Nat
 mask:Nat
def items (ops:Array Oper):List Oper→List (List Nat×List Nat)→List Nat→Nat→Option (List Item)
 | [],ft,_,_=>match ft with
  | []=>some []
  | _::_=>none
 | o::os,ft,ms,j=>match ft with
  | []=>none
  | (rd,wr)::ft=>match zij j o.after.toList with
   | true=>match items ops os ft (ms++[zd8 ms o.after.toList]) (j+1) with
    | some r=>some (⟨o.dst,o.looksAt ops,rd,wr,zd8 ms o.after.toList⟩::r)
    | none=>none
   | false=>none
def zrd:Option Nat→List Nat→Bool
 | some d,l=>zbf l d
 | none,_=>false
def zmr:Option Nat→Option Nat→Bool
 | some d,some e=>Nat.beq d e
 | _,_=>false
def meets:List Nat→List Nat→Bool
 | [],_=>false
 | i::r,l=>match zbf l i with
  | true=>true
  | false=>meets r l
def confl (x y:Item):Bool:=zrd x.dst y.looks || zrd y.dst x.looks || zmr x.dst y.dst || meets x.wr y.rd || meets y.wr x.rd || meets x.wr y.wr
def zlD (i:Nat) (x y:Item):Bool:=match confl x y with
 | true=>y.mask.testBit i
 | false=>true
def zp0 (i:Nat) (x:Item):List Item→Bool
 | []=>true
 | y::r=>match zlD i x y with
  | true=>zp0 i x r
  | false=>false
def zoA:Nat→List Item→Bool
 | _,[]=>true
 | i,x::r=>match zp0 i x r with
  | true=>zoA (i+1) r
  | false=>false
def zmu (ops:Array Oper) (ft:List (List Nat×List Nat)):Bool:=match items ops ops.toList ft [] 0 with
 | some l=>zoA 0 l
 | none=>false
inductive Anc (ops:Array Oper):Nat→Nat→Prop
 | edge {i j:Nat} {o:Oper} {e:Edge}:ops[j]? = some o→e∈o.after→Region.binds .any e=true→e.on=i→Anc ops i j
 | trans {i k j:Nat}:Anc ops i k→Anc ops k j→Anc ops i j
section
variable {ops:Array Oper}
def zks (ops:Array Oper) (S:Nat→Bool):Prop:=∀ j o,ops[j]? = some o→S j=true→∀ e,e∈o.after→Region.binds .any e=true→S e.on=true
theorem Anc.closed {S:Nat→Bool} (hS:zks ops S) {i j:Nat} (A:Anc ops i j):S j=true→S i=true:=by
 induction A with
 | edge h1 h2 h3 h4=>intro hj;exact h4▸hS _ _ h1 hj _ h2 h3
 | trans _ _ ih1 ih2=>exact fun hj=>ih1 (ih2 hj)
theorem zgg {j:Nat}:∀ {es:List Edge},zij j es=true→∀ e,e∈es→Region.binds .any e=true→e.on<j
 | x::es,h,e,he,hb=>by
  unfold zij at h
  rcases List.mem_cons.1 he with rfl|he
  · rw [hb] at h
    simp only [] at h
    split at h
    · rename_i hlt
      exact Nat.le_of_ble_eq_true hlt
    · cases h
  · split at h
    · split at h
      · exact zgg h e he hb
      · cases h
    · exact zgg h e he hb
theorem zfI {ms:List Nat} {i:Nat}:∀ {es:List Edge},(zd8 ms es).testBit i=true→∃ e,e∈es∧Region.binds .any e=true∧(e.on=i∨(ms.getD e.on 0).testBit i=true)
 | [],h=>by simp [zd8] at h
 | x::es,h=>by
  unfold zd8 at h
  split at h
  · rename_i hb
    rw [Nat.testBit_or,Nat.testBit_or,Bool.or_eq_true,Bool.or_eq_true,Nat.testBit_two_pow] at h
    rcases h with h|h|h
    · exact ⟨x,by simp,hb,.inl (by simpa using h)⟩
    · exact ⟨x,by simp,hb,.inr h⟩
    · obtain ⟨e,h1,h2,h3⟩:=zfI h
      exact ⟨e,by simp [h1],h2,h3⟩
  · obtain ⟨e,h1,h2,h3⟩:=zfI h
    exact ⟨e,by simp [h1],h2,h3⟩
theorem zic:∀ {os:List Oper} {ft:List (List Nat×List Nat)} {ms:List Nat} {j:Nat} {l:List Item},items ops os ft ms j=some l→ms.length=j→(∀ k i,(ms.getD k 0).testBit i=true→Anc ops i k)→(∀ k,os[k]? = ops[j+k]? ∨ os.length≤k) →
 l.length=os.length∧ft.length=os.length∧∀ k x,l[k]? = some x→∃ o f,os[k]? = some o∧ft[k]? = some f∧x.dst=o.dst∧x.looks=o.looksAt ops∧x.rd=f.1∧x.wr=f.2∧(∀ i,x.mask.testBit i=true→Anc ops i (j+k))∧∀ e,e∈o.after→Region.binds .any e=true→e.on<j+k
 | [],ft,ms,j,l,h,_,_,_=>by
  unfold items at h
  cases ft with
  | nil=>simp only [] at h;cases h;exact ⟨rfl,rfl,fun k x hx=>by simp at hx⟩
  | cons=>simp at h
 | o::os,ft,ms,j,l,h,hms,hA,hos=>by
  unfold items at h
  cases ft with
  | nil=>simp at h
  | cons f ft=>
  obtain ⟨rd,wr⟩:=f
  simp only [] at h
  cases hlt:zij j o.after.toList with
  | false=>simp [hlt] at h
  | true=>
  simp only [hlt] at h
  cases hi:items ops os ft (ms++[zd8 ms o.after.toList]) (j+1) with
  | none=>simp [hi] at h
  | some r=>
  simp only [hi] at h
  cases h
  have h0:ops[j]? = some o:=by
   rcases hos 0 with e|e
   · simpa using e.symm
   · simp at e
  have hm:∀ i,(zd8 ms o.after.toList).testBit i=true→Anc ops i j:=by
   intro i hi
   obtain ⟨e,h1,h2,h3⟩:=zfI hi
   rcases h3 with h3|h3
   · exact .edge h0 (by simpa using h1) h2 h3
   · exact .trans (hA _ _ h3) (.edge h0 (by simpa using h1) h2 rfl)
  have hA':∀ k i,((ms++[zd8 ms o.after.toList]).getD k 0).testBit i=true→Anc ops i k:=by
   intro k i hk
   rcases Nat.lt_trichotomy k ms.length with h|h|h
   · rw [List.getD_eq_getElem?_getD,List.getElem?_append_left h,← List.getD_eq_getElem?_getD] at hk;exact hA k i hk
   · subst h
     rw [List.getD_eq_getElem?_getD,List.getElem?_append_right (Nat.le_refl _)] at hk
     simp at hk
     exact hms▸hm i hk
   · rw [List.getD_eq_getElem?_getD,List.getElem?_eq_none (by simp;omega)] at hk
     simp at hk
  have hrec:=zic hi (by simp [hms]) hA' (fun k=>by
   rcases hos (k+1) with e|e
   · left;simpa [Nat.add_assoc,Nat.add_comm 1 k] using e
   · right;simpa using e)
  refine ⟨by simp [hrec.1],by simp [hrec.2.1],fun k x hx=>?_⟩
  cases k with
  | zero=>
   simp at hx;subst hx
   exact ⟨o,(rd,wr),rfl,rfl,rfl,rfl,rfl,rfl,by simpa using hm,fun e he hb=>by simpa using zgg hlt e (by simpa using he) hb⟩
  | succ k=>
   simp only [List.getElem?_cons_succ] at hx
   obtain ⟨o',f,h1,h2,h3,h4,h5,h6,h7,h8⟩:=hrec.2.2 k x hx
   exact ⟨o',f,by simpa using h1,by simpa using h2,h3,h4,h5,h6,by simpa [Nat.add_assoc,Nat.add_comm 1 k] using h7,by simpa [Nat.add_assoc,Nat.add_comm 1 k] using h8⟩
theorem zj3 {i:Nat} {x:Item}:∀ {l:List Item},zp0 i x l=true→∀ y,y∈l→zlD i x y=true
 | z::l,h,y,hy=>by
  unfold zp0 at h
  split at h
  · rename_i h1
    rcases List.mem_cons.1 hy with rfl|hy
    · exact h1
    · exact zj3 h y hy
  · cases h
theorem zh6:∀ {l:List Item} {k:Nat},zoA k l=true→∀ i j x y,i<j→l[i]? = some x→l[j]? = some y→zlD (k+i) x y=true
 | z::l,k,h,i,j,x,y,hij,hx,hy=>by
  unfold zoA at h
  split at h
  · rename_i h1
    cases j with
    | zero=>omega
    | succ j=>
    simp only [List.getElem?_cons_succ] at hy
    cases i with
    | zero=>
     simp at hx;subst hx
     exact zj3 h1 y (List.mem_of_getElem? hy)
    | succ i=>
     simp only [List.getElem?_cons_succ] at hx
     have:=zh6 h i j x y (by omega) hx hy
     simpa [Nat.add_assoc,Nat.add_comm 1 i] using this
  · cases h
theorem zdZ:∀ {l:List Nat} {t:Nat},t∈l→zbf l t=true
 | k::l,t,h=>by
  unfold zbf
  rcases List.mem_cons.1 h with rfl|h
  · simp
  · split
    · rfl
    · exact zdZ h
theorem zdY:∀ {a b:List Nat} {t:Nat},t∈a→t∈b→meets a b=true
 | k::a,b,t,h1,h2=>by
  unfold meets
  rcases List.mem_cons.1 h1 with rfl|h1
  · simp [zdZ h2]
  · split
    · rfl
    · exact zdY h1 h2
end
end Go.Av
end
/- Regions, part 3: whatever the order. -/
section
set_option linter.all false
namespace Go.Av
def stF (F:Fr):List (Option Nat×AV)→(Nat→Bool)→Nat→Fr
 | [],_,_=>F
 | (d,v)::r,S,k=>stF (if S k then putO F d v else F) r S (k+1)
def stM (M:Mm):List (List (Nat×Blk))→(Nat→Bool)→Nat→Mm
 | [],_,_=>M
 | wr::r,S,k=>stM (if S k then updL M wr else M) r S (k+1)
theorem zqV {F F':Fr} {d:Option Nat} {v:AV} {t:Nat} (h:F t=F' t):putO F d v t=putO F' d v t:=by
 cases d with
 | none=>exact h
 | some d=>
  by_cases e:t=d
  · subst e;simp [putO,zfw]
  · simp [putO,zfe _ _ e,h]
theorem zkE {F:Fr} {d:Option Nat} {v:AV} {t:Nat} (h:d≠some t):putO F d v t=F t:=by
 cases d with
 | none=>rfl
 | some d=>exact zfe _ _ (fun e=>h (by rw [e]))
theorem zmm:∀ {wr:List (Nat×Blk)} {M M':Mm} {i:Nat},M i=M' i→updL M wr i=updL M' wr i
 | [],_,_,_,h=>h
 | (j,b)::r,M,M',i,h=>by
  unfold updL
  refine zmm ?_
  by_cases e:i=j
  · subst e;simp [zaf]
  · simp [zae _ _ e,h]
theorem zi0:∀ {wr:List (Nat×Blk)} {M:Mm} {i:Nat},i ∉ wr.map (·.1)→updL M wr i=M i
 | [],_,_,_=>rfl
 | (j,b)::r,M,i,h=>by
  unfold updL
  simp at h
  rw [zi0 (by simpa using h.2),zae _ _ h.1]
theorem zfd {t:Nat}:∀ {l:List (Option Nat×AV)} {F F':Fr} {S S':Nat→Bool} {k:Nat},F t=F' t→(∀ i d v,l[i]? = some (d,v)→S (k+i)≠S' (k+i)→d≠some t)→stF F l S k t=stF F' l S' k t
 | [],_,_,_,_,_,h,_=>h
 | (d,v)::r,F,F',S,S',k,h,hd=>by
  unfold stF
  refine zfd ?_ (fun i d' v' hi hs=>hd (i+1) d' v' (by simpa using hi) (by simpa [Nat.add_assoc,Nat.add_comm 1 i] using hs))
  have h0:=hd 0 d v (by simp)
  simp only [Nat.add_zero] at h0
  cases hS:S k <;> cases hS':S' k
  · simpa using h
  · simp only [Bool.false_eq_true,if_false,if_true];rw [zkE (h0 (by rw [hS,hS'];decide))];exact h
  · simp only [Bool.false_eq_true,if_false,if_true];rw [zkE (h0 (by rw [hS,hS'];decide))];exact h
  · simp only [if_true];exact zqV h
theorem zeF {t:Nat}:∀ {l:List (List (Nat×Blk))} {M M':Mm} {S S':Nat→Bool} {k:Nat},M t=M' t→(∀ i wr,l[i]? = some wr→S (k+i)≠S' (k+i)→t ∉ wr.map (·.1))→stM M l S k t=stM M' l S' k t
 | [],_,_,_,_,_,h,_=>h
 | wr::r,M,M',S,S',k,h,hd=>by
  unfold stM
  refine zeF ?_ (fun i wr' hi hs=>hd (i+1) wr' (by simpa using hi) (by simpa [Nat.add_assoc,Nat.add_comm 1 i] using hs))
  have h0:=hd 0 wr (by simp)
  simp only [Nat.add_zero] at h0
  cases hS:S k <;> cases hS':S' k
  · simpa using h
  · simp only [Bool.false_eq_true,if_false,if_true];rw [zi0 (h0 (by rw [hS,hS'];decide))];exact h
  · simp only [Bool.false_eq_true,if_false,if_true];rw [zi0 (h0 (by rw [hS,hS'];decide))];exact h
  · simp only [if_true];exact zmm h
theorem zmo {d:Option Nat} {v:AV} {i:Nat}:∀ {l:List (Option Nat×AV)} {F:Fr} {S S':Nat→Bool} {k:Nat},l[i]? = some (d,v)→S (k+i)=false→S' (k+i)=true→(∀ j,j≠i→S' (k+j)=S (k+j)) →
 (∀ j e u,i<j→l[j]? = some (e,u)→S (k+j)=true→∀ t,d=some t→e≠some t)→∀ t,stF F l S' k t=putO (stF F l S k) d v t
 | [],_,_,_,_,h,_,_,_,_=>by simp at h
 | (d0,v0)::r,F,S,S',k,hi,h1,h2,h3,h4=>by
  intro t
  unfold stF
  cases i with
  | zero=>
   simp only [List.getElem?_cons_zero,Option.some.injEq,Prod.mk.injEq] at hi
   obtain ⟨rfl,rfl⟩:=hi
   simp only [Nat.add_zero] at h1 h2
   rw [h1,h2]
   simp only [Bool.false_eq_true,if_false,if_true]
   have hS:stF (putO F d0 v0) r S' (k+1) t=stF (putO F d0 v0) r S (k+1) t:=zfd rfl (fun j e u _ hs=>by
    have:=h3 (j+1) (by omega)
    rw [show k+(j+1)=k+1+j by omega] at this
    exact absurd this hs)
   rw [hS]
   by_cases ht:d0=some t
   · subst ht
     simp only [putO,zfw]
     have:stF (put F t v0) r S (k+1) t=stF (put F t v0) r (fun _=>false) (k+1) t:=zfd rfl (fun j e u hj hs=>by
      refine h4 (j+1) e u (by omega) (by simpa using hj) ?_ t rfl
      rw [show k+(j+1)=k+1+j by omega]
      simpa using hs)
     rw [this]
     have hfal:∀ (l:List (Option Nat×AV)) (G:Fr) (k:Nat),stF G l (fun _=>false) k=G:=by
      intro l
      induction l with
      | nil=>intros;rfl
      | cons x l ih=>intro G k;obtain ⟨e,u⟩:=x;unfold stF;simp [ih]
     rw [hfal,zfw]
   · rw [zkE ht]
     exact zfd (zkE ht) (fun j e u _ hs=>absurd rfl hs)
  | succ i=>
   have e0:=h3 0 (by omega)
   simp only [Nat.add_zero] at e0
   rw [e0]
   exact zmo (by simpa using hi) (by rw [show k+1+i=k+(i+1) by omega];exact h1) (by rw [show k+1+i=k+(i+1) by omega];exact h2)
    (fun j hj=>by rw [show k+1+j=k+(j+1) by omega];exact h3 (j+1) (by omega))
    (fun j e u hij hj hs=>h4 (j+1) e u (by omega) (by simpa using hj) (by rw [show k+(j+1)=k+1+j by omega];exact hs)) t
theorem zmn {wr:List (Nat×Blk)} {i:Nat}:∀ {l:List (List (Nat×Blk))} {M:Mm} {S S':Nat→Bool} {k:Nat},l[i]? = some wr→S (k+i)=false→S' (k+i)=true→(∀ j,j≠i→S' (k+j)=S (k+j)) →
 (∀ j wr',i<j→l[j]? = some wr'→S (k+j)=true→∀ t,t∈wr.map (·.1)→t ∉ wr'.map (·.1))→∀ t,stM M l S' k t=updL (stM M l S k) wr t
 | [],_,_,_,_,h,_,_,_,_=>by simp at h
 | wr0::r,M,S,S',k,hi,h1,h2,h3,h4=>by
  intro t
  unfold stM
  cases i with
  | zero=>
   simp only [List.getElem?_cons_zero,Option.some.injEq] at hi
   subst hi
   simp only [Nat.add_zero] at h1 h2
   rw [h1,h2]
   simp only [Bool.false_eq_true,if_false,if_true]
   have hS:stM (updL M wr0) r S' (k+1) t=stM (updL M wr0) r S (k+1) t:=zeF rfl (fun j u _ hs=>by
    have:=h3 (j+1) (by omega)
    rw [show k+(j+1)=k+1+j by omega] at this
    exact absurd this hs)
   rw [hS]
   have hfal:∀ (l:List (List (Nat×Blk))) (G:Mm) (k:Nat),stM G l (fun _=>false) k=G:=by
    intro l
    induction l with
    | nil=>intros;rfl
    | cons x l ih=>intro G k;unfold stM;simp [ih]
   by_cases ht:t∈wr0.map (·.1)
   · have hno:∀ j wr',r[j]? = some wr'→S (k+1+j)=true→t ∉ wr'.map (·.1):=fun j wr' hj hs=>
      h4 (j+1) wr' (by omega) (by simpa using hj) (by rw [show k+(j+1)=k+1+j by omega];exact hs) t ht
     have e1:stM (updL M wr0) r S (k+1) t=stM (updL M wr0) r (fun _=>false) (k+1) t:=zeF rfl (fun j u hj hs=>hno j u hj (by simpa using hs))
     have e2:stM M r S (k+1) t=stM M r (fun _=>false) (k+1) t:=zeF rfl (fun j u hj hs=>hno j u hj (by simpa using hs))
     rw [hfal] at e1 e2
     rw [e1]
     exact (zmm e2).symm
   · rw [zi0 ht]
     exact zeF (zi0 ht) (fun j u _ hs=>absurd rfl hs)
  | succ i=>
   have e0:=h3 0 (by omega)
   simp only [Nat.add_zero] at e0
   rw [e0]
   exact zmn (by simpa using hi) (by rw [show k+1+i=k+(i+1) by omega];exact h1) (by rw [show k+1+i=k+(i+1) by omega];exact h2)
    (fun j hj=>by rw [show k+1+j=k+(j+1) by omega];exact h3 (j+1) (by omega))
    (fun j wr' hij hj hs=>h4 (j+1) wr' (by omega) (by simpa using hj) (by rw [show k+(j+1)=k+1+j by omega];exact hs)) t
section
variable {P:Program} {N:Nat} {Γ:Tys} {own:List Nat} {ops:Array Oper}
def dvs:List Oper→List OpRes→List (Option Nat×AV)
 | o::os,r::rs=>(o.dst,r.v)::dvs os rs
 | _,_=>[]
theorem zpp:∀ {os:List Oper} {rs:List OpRes} {i:Nat} {o:Oper} {r:OpRes},os[i]? = some o→rs[i]? = some r→(dvs os rs)[i]? = some (o.dst,r.v):=by
 intro os
 induction os with
 | nil=>intro rs i o r h;simp at h
 | cons o0 os ih=>
  intro rs i o r h1 h2
  cases rs with
  | nil=>simp at h2
  | cons r0 rs=>
   cases i with
   | zero=>
    simp only [List.getElem?_cons_zero,Option.some.injEq] at h1 h2
    subst h1 h2
    simp only [dvs,List.getElem?_cons_zero]
   | succ i=>
    simp only [List.getElem?_cons_succ] at h1 h2
    simp only [dvs,List.getElem?_cons_succ]
    exact ih h1 h2
theorem zk6:∀ {os:List Oper} {rs:List OpRes} {i:Nat} {x:Option Nat×AV},(dvs os rs)[i]? = some x→∃ o r,os[i]? = some o∧rs[i]? = some r∧x=(o.dst,r.v):=by
 intro os
 induction os with
 | nil=>intro rs i x h;simp [dvs] at h
 | cons o0 os ih=>
  intro rs i x h
  cases rs with
  | nil=>simp [dvs] at h
  | cons r0 rs=>
   simp only [dvs] at h
   cases i with
   | zero=>simp only [List.getElem?_cons_zero,Option.some.injEq] at h;exact ⟨o0,r0,rfl,rfl,h.symm⟩
   | succ i=>
    simp only [List.getElem?_cons_succ] at h ⊢
    exact ih h
theorem Trace.len {F F':Fr} {M M':Mm} {os:List Oper} {rs:List OpRes} {Z:Ctx→Prop} (T:Trace Z P N ops F M os rs F' M'):rs.length=os.length:=by
 induction T with
 | nil=>rfl
 | cons _ _ ih=>simp [ih]
theorem Trace.at {F F':Fr} {M M':Mm} {os:List Oper} {rs:List OpRes} {Z:Ctx→Prop} (T:Trace Z P N ops F M os rs F' M'):∀ (k j:Nat) (o:Oper) (r:OpRes),os[j]? = some o→rs[j]? = some r →
 OpOk Z P N ops (stF F (dvs os rs) (fun i=>decide (i<k+j)) k) (stM M (rs.map (·.wr)) (fun i=>decide (i<k+j)) k) o r:=by
 induction T with
 | nil=>intro k j o r h;simp at h
 | cons hop _ ih=>
  rename_i F M o0 r0 os rs F' M' T'
  intro k j o r ho hr
  cases j with
  | zero=>
   simp at ho hr;subst ho hr
   have e1:∀ (l:List (Option Nat×AV)) (G:Fr) (m:Nat),k≤m→stF G l (fun i=>decide (i<k+0)) m=G:=by
    intro l
    induction l with
    | nil=>intros;rfl
    | cons x l ih=>intro G m hm;obtain ⟨e,u⟩:=x;unfold stF;rw [if_neg (by simp;omega)];exact ih G (m+1) (by omega)
   have e2:∀ (l:List (List (Nat×Blk))) (G:Mm) (m:Nat),k≤m→stM G l (fun i=>decide (i<k+0)) m=G:=by
    intro l
    induction l with
    | nil=>intros;rfl
    | cons x l ih=>intro G m hm;unfold stM;rw [if_neg (by simp;omega)];exact ih G (m+1) (by omega)
   rw [e1 _ _ _ (Nat.le_refl _),e2 _ _ _ (Nat.le_refl _)]
   exact hop
  | succ j=>
   have:=ih (k+1) j o r (by simpa using ho) (by simpa using hr)
   simp only [dvs,stF,stM,List.map_cons]
   rw [if_pos (by simp),if_pos (by simp)]
   have e:(fun i=>decide (i<k+(j+1)))=(fun i=>decide (i<k+1+j)):=by funext i;congr 1;rw [show k+(j+1)=k+1+j by omega]
   rw [e]
   exact this
theorem Trace.all {F F':Fr} {M M':Mm} {os:List Oper} {rs:List OpRes} {Z:Ctx→Prop} (T:Trace Z P N ops F M os rs F' M'):∀ (S:Nat→Bool) (k:Nat),(∀ i,i<os.length→S (k+i)=true)→stF F (dvs os rs) S k=F'∧stM M (rs.map (·.wr)) S k=M':=by
 induction T with
 | nil=>intro S k _;exact ⟨rfl,rfl⟩
 | cons hop _ ih=>
  intro S k hS
  simp only [dvs,stF,stM,List.map_cons]
  have h0:=hS 0 (by simp)
  simp only [Nat.add_zero] at h0
  rw [h0]
  exact ih S (k+1) (fun i hi=>by rw [show k+1+i=k+(i+1) by omega];exact hS (i+1) (by simp;omega))
def cnt (S:Nat→Bool):Nat→Nat
 | 0=>0
 | n+1=>cnt S n+(if S n then 0 else 1)
theorem znF {S S':Nat→Bool}:∀ {n:Nat},(∀ i,i<n→S i=S' i)→cnt S n=cnt S' n
 | 0,_=>rfl
 | n+1,h=>by simp only [cnt];rw [znF (fun i hi=>h i (by omega)),h n (by omega)]
theorem zpt {S S':Nat→Bool} {i:Nat} (h1:S i=false) (h2:S' i=true) (h3:∀ j,j≠i→S' j=S j) (n:Nat) (hi:i<n):cnt S n=cnt S' n+1:=by
 induction n with
 | zero=>omega
 | succ n ih=>
  simp only [cnt]
  by_cases e:i=n
  · subst e
    rw [h1,h2,znF (S:=S) (S':=S') (fun j hj=>(h3 j (by omega)).symm)]
    simp
  · have:=ih (by omega)
    rw [h3 n (Ne.symm e)]
    omega
theorem zk9 {S:Nat→Bool}:∀ {n:Nat},cnt S n=0→∀ i,i<n→S i=true
 | n+1,h,i,hi=>by
  simp only [cnt] at h
  by_cases e:i=n
  · subst e
    cases hS:S i with
    | true=>rfl
    | false=>simp [hS] at h
  · have h0:cnt S n=0:=by omega
    exact zk9 h0 i (by omega)
theorem zgK {d:Option Nat} {l:List Nat} {t:Nat} (h1:d=some t) (h2:t∈l):zrd d l=true:=by subst h1;exact zdZ h2
theorem zpC {F0 F1:Fr} {M0 M1:Mm} {rs:List OpRes} {Z:Ctx→Prop} (T:Trace Z P N ops F0 M0 ops.toList rs F1 M1) (hord:zmu ops (rs.map (fun r=>(r.rd,r.wr.map (·.1))))=true) (hdst:∀ o,o∈ops.toList→∀ d,o.dst=some d→d<N)
 {C:Ctx} (hZ:Z C) {g:Nat} {rr:Option Nat} {n:Nat} {Q:Exit→Act→World→Prop} (hQ:∀ h ρ a w,InvH N C h ρ F1 M1 g a w→Q .normal a w) :
 ∀ (fuel:Nat) (listed:Array Bool) (h:Hp) (ρ:Rho) (a:Act) (w:World),listed.size=ops.size→cnt (fun i=>listed.getD i false) ops.size=fuel→zks ops (fun i=>listed.getD i false) →
  InvH N C h ρ (stF F0 (dvs ops.toList rs) (fun i=>listed.getD i false) 0) (stM M0 (rs.map (·.wr)) (fun i=>listed.getD i false) 0) g a w→wpAnyIn (Fw rr) n P .any ops Q fuel listed a w:=by
 unfold zmu at hord
 split at hord
 case h_2=>cases hord
 rename_i l hl
 obtain ⟨hlen,_,hit⟩:=zic hl rfl (fun k i h=>by simp at h) (fun k=>.inl (by simp))
 have hpair:=zh6 hord
 simp only [Nat.zero_add] at hit hpair
 have hn:ops.toList.length=ops.size:=by simp
 -- an item of each operation
 have item:∀ (i:Nat) (o:Oper) (r:OpRes),ops[i]? = some o→rs[i]? = some r→∃ x,l[i]? = some x∧x.dst=o.dst∧x.looks=o.looksAt ops∧x.rd=r.rd∧x.wr=r.wr.map (·.1)∧(∀ k,x.mask.testBit k=true→Anc ops k i):=by
  intro i o r ho hr
  have hi:i<l.length:=by rw [hlen,hn];exact (Array.getElem?_eq_some_iff.1 ho).1
  obtain ⟨o',f,h1,h2,h3,h4,h5,h6,h7,_⟩:=hit i l[i] (List.getElem?_eq_getElem hi)
  rw [Array.getElem?_toList,ho] at h1;cases h1
  rw [List.getElem?_map,hr] at h2;cases h2
  exact ⟨_,List.getElem?_eq_getElem hi,h3,h4,h5,h6,h7⟩
 -- two that do not wait for one another are apart
 have far:∀ (i j:Nat) (o:Oper) (r:OpRes) (o':Oper) (r':OpRes),i<j→ops[i]? = some o→rs[i]? = some r→ops[j]? = some o'→rs[j]? = some r'→¬ Anc ops i j →
  (∀ t,o.dst=some t→t ∉ o'.looksAt ops)∧(∀ t,o'.dst=some t→t ∉ o.looksAt ops)∧(∀ t,o.dst=some t→o'.dst≠some t)∧(∀ t,t∈r.wr.map (·.1)→t ∉ r'.rd)∧(∀ t,t∈r'.wr.map (·.1)→t ∉ r.rd)∧(∀ t,t∈r.wr.map (·.1)→t ∉ r'.wr.map (·.1)):=by
  intro i j o r o' r' hij ho hr ho' hr' hA
  obtain ⟨x,hx,a1,a2,a3,a4,_⟩:=item i o r ho hr
  obtain ⟨y,hy,b1,b2,b3,b4,b5⟩:=item j o' r' ho' hr'
  have h0:=hpair i j x y hij hx hy
  have hc:confl x y=false:=by
   unfold zlD at h0
   split at h0
   · exact absurd (b5 i h0) hA
   · assumption
  unfold confl at hc
  simp only [Bool.or_eq_false_iff] at hc
  obtain ⟨⟨⟨⟨⟨c1,c2⟩,c3⟩,c4⟩,c5⟩,c6⟩:=hc
  refine ⟨fun t ht hin=>?_,fun t ht hin=>?_,fun t ht hin=>?_,fun t ht hin=>?_,fun t ht hin=>?_,fun t ht hin=>?_⟩
  · rw [zgK (a1.trans ht) (b2▸hin)] at c1;cases c1
  · rw [zgK (b1.trans ht) (a2▸hin)] at c2;cases c2
  · rw [a1.trans ht,b1.trans hin] at c3;simp [zmr] at c3
  · rw [zdY (a4▸ht) (b3▸hin)] at c4;cases c4
  · rw [zdY (b4▸ht) (a3▸hin)] at c5;cases c5
  · rw [zdY (a4▸ht) (b4▸hin)] at c6;cases c6
 have hrs:∀ (i:Nat) (o:Oper),ops[i]? = some o→∃ r,rs[i]? = some r:=by
  intro i o ho
  have hi:i<rs.length:=by rw [T.len,hn];exact (Array.getElem?_eq_some_iff.1 ho).1
  exact ⟨rs[i],List.getElem?_eq_getElem hi⟩
 have fin:∀ (listed:Array Bool) (h:Hp) (ρ:Rho) (a:Act) (w:World),(∀ i,i<ops.size→listed.getD i false=true) →
  InvH N C h ρ (stF F0 (dvs ops.toList rs) (fun i=>listed.getD i false) 0) (stM M0 (rs.map (·.wr)) (fun i=>listed.getD i false) 0) g a w→Q .normal a w:=by
  intro listed h ρ a w hall I
  obtain ⟨e1,e2⟩:=T.all (fun i=>listed.getD i false) 0 (fun i hi=>by simpa using hall i (by simpa using hi))
  rw [e1,e2] at I
  exact hQ h ρ a w I
 have hgd:∀ (listed:Array Bool) (i:Nat),listed.size=ops.size→i<ops.size→listed.getD i true=listed.getD i false:=by
  intro listed i hs hi
  have:i<listed.size:=by omega
  simp [this]
 intro fuel
 induction fuel with
 | zero=>
  intro listed h ρ a w hs hc hcl I
  have hall:=zk9 hc
  refine ⟨?_,fin listed h ρ a w hall I⟩
  rcases hr:Region.ready .any ops listed with _|⟨i,t⟩
  · rfl
  · have:=(mem_ready.1 (hr▸List.mem_cons_self .. : i∈Region.ready .any ops listed))
    obtain ⟨h1,o,ho,_⟩:=this
    have hi:=(Array.getElem?_eq_some_iff.1 ho).1
    rw [hgd listed i hs hi,hall i hi] at h1;cases h1
 | succ fuel ih=>
  intro listed h ρ a w hs hc hcl I
  refine ⟨fun h0=>fin listed h ρ a w (fun i hi=>?_) I,fun i hi=>?_⟩
  · -- nothing is ready: all have come
    have key:∀ m i,i<m→i<ops.size→listed.getD i false=true:=by
     intro m
     induction m with
     | zero=>intro i hi;omega
     | succ m ihm=>
      intro i him hi
      cases hl':listed.getD i false with
      | true=>rfl
      | false=>
       exfalso
       have ho:ops[i]? = some ops[i]:=Array.getElem?_eq_getElem hi
       have hx:i<l.length:=by rw [hlen,hn];exact hi
       obtain ⟨o',f,h1,_,_,_,_,_,_,h8⟩:=hit i l[i] (List.getElem?_eq_getElem hx)
       rw [Array.getElem?_toList,ho] at h1;cases h1
       have:i∈Region.ready .any ops listed:=mem_ready.2 ⟨by rw [hgd listed i hs hi];exact hl',_,ho,fun e he hb=>ihm e.on (by have:=h8 e he hb;omega) (by have:=h8 e he hb;omega)⟩
       rw [h0] at this;cases this
    exact key (i+1) i (by omega) hi
  · obtain ⟨h1,o,ho,hall⟩:=mem_ready.1 hi
    have hin:=(Array.getElem?_eq_some_iff.1 ho).1
    rw [hgd listed i hs hin] at h1
    obtain ⟨r,hr⟩:=hrs i o ho
    have hop:=T.at 0 i o r (by rw [Array.getElem?_toList];exact ho) hr
    simp only [Nat.zero_add] at hop
    -- whom it waits for,and who waits for it
    have anc1:∀ k,Anc ops k i→listed.getD k false=true:=by
     intro k A
     have hcl':∀ k,Anc ops k i→listed.getD k false=true:=by
      intro k A
      obtain ⟨j,hj⟩:∃ j,j=i:=⟨i,rfl⟩
      rw [← hj] at A
      induction A with
      | edge q1 q2 q3 q4=>subst hj;rw [ho] at q1;cases q1;exact q4▸hall _ q2 q3
      | trans A1 _ _ ih2=>exact A1.closed hcl (ih2 hj)
     exact hcl' k A
    have anc2:∀ k,Anc ops i k→listed.getD k false=false:=by
     intro k A
     cases hk:listed.getD k false with
     | false=>rfl
     | true=>
      have:listed.getD i false=true:=A.closed hcl hk
      rw [h1] at this;cases this
    have apartT:∀ (k:Nat) (o':Oper) (r':OpRes),ops[k]? = some o'→rs[k]? = some r'→k≠i→(listed.getD k false≠decide (k<i)) →
     (∀ t,o'.dst=some t→t ∉ o.looksAt ops)∧(∀ t,t∈r'.wr.map (·.1)→t ∉ r.rd)∧(∀ t,o.dst=some t→o'.dst≠some t)∧(∀ t,t∈r.wr.map (·.1)→t ∉ r'.wr.map (·.1)):=by
     intro k o' r' ho' hr' hne hd
     rcases Nat.lt_or_ge k i with hlt|hge
     · have hk:listed.getD k false=false:=by
        cases hk:listed.getD k false with
        | false=>rfl
        | true=>rw [hk] at hd;simp [hlt] at hd
       have hA:¬ Anc ops k i:=fun A=>by rw [anc1 k A] at hk;cases hk
       obtain ⟨f1,f2,f3,f4,f5,f6⟩:=far k i o' r' o r hlt ho' hr' ho hr hA
       exact ⟨f1,f4,fun t h1 h2=>f3 t h2 h1,fun t h1 h2=>f6 t h2 h1⟩
     · have hgt:i<k:=by omega
       have hk:listed.getD k false=true:=by
        cases hk:listed.getD k false with
        | true=>rfl
        | false=>rw [hk] at hd;simp [Nat.not_lt.2 hge] at hd
       have hA:¬ Anc ops i k:=fun A=>by rw [anc2 k A] at hk;cases hk
       obtain ⟨f1,f2,f3,f4,f5,f6⟩:=far i k o r o' r' hgt ho hr ho' hr' hA
       exact ⟨f2,f5,f3,f6⟩
    have hset:∀ j,j≠i→(listed.setIfInBounds i true).getD j false=listed.getD j false:=fun j hj=>getD_set_ne false (Ne.symm hj)
    have hseti:(listed.setIfInBounds i true).getD i false=true:=by
     have:i<listed.size:=by omega
     simp [this]
    unfold wpOpIn
    simp only [ho]
    refine hop C hZ h ρ _ _ g a w I (fun t ht=>zfd rfl (fun k d v hk hd hdt=>?_)) (fun t ht=>zeF rfl (fun k wr hk hd hin'=>?_)) rr n _ Q (fun x h' ρ' w' I' hv=>?_)
    · obtain ⟨o',r',e1,e2,e3⟩:=zk6 hk
      cases e3
      rw [Array.getElem?_toList] at e1
      simp only [Nat.zero_add] at hd
      by_cases hki:k=i
      · subst hki;simp [h1] at hd
      · exact (apartT k o' r' e1 e2 hki hd).1 t hdt ht
    · simp only [List.getElem?_map,Option.map_eq_some_iff] at hk
      obtain ⟨r',e2,rfl⟩:=hk
      simp only [Nat.zero_add] at hd
      have hk':k<ops.size:=by
       have:=(List.getElem?_eq_some_iff.1 e2).1
       rw [T.len,hn] at this;exact this
      by_cases hki:k=i
      · subst hki;simp [h1] at hd
      · exact (apartT k _ r' (Array.getElem?_eq_getElem hk') e2 hki hd).2.1 t hin' ht
    · have hF:stF F0 (dvs ops.toList rs) (fun j=>(listed.setIfInBounds i true).getD j false) 0=putO (stF F0 (dvs ops.toList rs) (fun j=>listed.getD j false) 0) o.dst r.v:=by
       funext t
       refine zmo (i:=i) (zpp (by rw [Array.getElem?_toList];exact ho) hr) (by simpa using h1) (by simpa using hseti) (fun j hj=>by simpa using hset j hj) (fun j e u hij hj hs t' ht'=>?_) t
       obtain ⟨o',r',e1,e2,e3⟩:=zk6 hj
       cases e3
       rw [Array.getElem?_toList] at e1
       simp only [Nat.zero_add] at hs
       exact (apartT j o' r' e1 e2 (by omega) (by rw [hs];simp;omega)).2.2.1 t' ht'
      have hM:stM M0 (rs.map (·.wr)) (fun j=>(listed.setIfInBounds i true).getD j false) 0=updL (stM M0 (rs.map (·.wr)) (fun j=>listed.getD j false) 0) r.wr:=by
       funext t
       refine zmn (i:=i) (by simp [hr]) (by simpa using h1) (by simpa using hseti) (fun j hj=>by simpa using hset j hj) (fun j wr' hij hj hs t' ht'=>?_) t
       simp only [List.getElem?_map,Option.map_eq_some_iff] at hj
       obtain ⟨r',e2,rfl⟩:=hj
       simp only [Nat.zero_add] at hs
       have hj':j<ops.size:=by
        have:=(List.getElem?_eq_some_iff.1 e2).1
        rw [T.len,hn] at this;exact this
       exact (apartT j _ r' (Array.getElem?_eq_getElem hj') e2 (by omega) (by rw [hs];simp;omega)).2.2.2 t' ht'
      refine ih (listed.setIfInBounds i true) h' ρ' _ w' (by simp [hs]) ?_ ?_ ?_
      · have:=zpt (S:=fun j=>listed.getD j false) (S':=fun j=>(listed.setIfInBounds i true).getD j false) h1 hseti hset ops.size hin
        omega
      · intro j o' ho' hj e he hb
        by_cases hji:j=i
        · subst hji
          rw [ho] at ho';cases ho'
          by_cases hei:e.on=j
          · rw [hei];exact hseti
          · simp only [hset _ hei];exact hall e he hb
        · simp only [hset _ hji] at hj
          by_cases hei:e.on=i
          · rw [hei];exact hseti
          · simp only [hset _ hei];exact hcl j o' ho' hj e he hb
      · rw [hF,hM]
        exact I'.put (fun d hd=>hdst o (by rw [← Array.getElem?_toList] at ho;exact List.mem_of_getElem? ho) d hd) hv
end
end Go.Av
end
