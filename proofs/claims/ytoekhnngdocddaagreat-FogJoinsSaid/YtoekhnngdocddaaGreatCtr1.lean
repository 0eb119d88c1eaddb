/- Printed by gen.py. -/
import Derived.Test.YtoekhnngdocddaaGreatFr4
import Derived.Test.YtoekhnngdocddaaGreatFr3
import Derived.Test.YtoekhnngdocddaaGreatFr5
import Derived.Test.YtoekhnngdocddaaGreatProg
import Derived.KernelRfl
import Derived.Shelf.Spec.SlicesInsert
import Derived.Tactics
import Derived.Tactics2
set_option linter.all false
set_option maxRecDepth 100000
set_option maxHeartbeats 1000000
set_option linter.unusedVariables false
namespace Go.Proofs
open Go.Shelf Go.RowKit Go.Lib
theorem wpList_append_runI {P : Program} (w : World) {ops : Array Oper} {rest : List Oper} {o : Oper} {a : Act} {Q : Exit → Act → World → Prop} (hgd : o.guard = none) (d s : Operand) (t t' : TypeId)
   (ho : o.op = .call { callee := .builtin .append, args := #[d, s], argTypes := #[t, t'] }) (v u : Value) (hd : a.eval d = v) (hs : a.eval s = u) {v' : Value} {w' : World}
   (hr : (Builtin.append_ #[t, t'] o.type #[v, u]).run P w = .ok v' w') (h : wpList P ops Q rest (a.put o.dst v') w') : wpList P ops Q (o :: rest) a w :=
 wpList_plain hgd fun _ hK => by
   unfold Oper.wp execOp
   simp only [ho, resolve, invoke, builtin, Sem.run_bind, Sem.run_pure, Result.andThen_ok, List.map_toArray, List.map_cons, List.map_nil, hd, hs, hr]
   exact hK _ _ h
set_option maxHeartbeats 4000000 in
set_option maxRecDepth 100000 in
theorem insw_Tryz_115 : Go.Av.InsW Tryz.prog 115 26 3 149 9 where
 shift := by
   intro g n c i vb vc w W1 W2 hi hroom hc63 hov hcp1 hcp2
   have hz2 : ¬ ((i : Int) = (n : Int)) := by omega
   have hw1 : IntKind.i64.wrap ((i : Int) + 1) = (i : Int) + 1 := by rw [IntKind.wrap_i64]; omega
   have hw2 : IntKind.i64.wrap ((n : Int) + 1) = (n : Int) + 1 := by rw [IntKind.wrap_i64]; omega
   have hb1 : (0 : Int) ≤ (i : Int) + 1 := by omega
   have hin : i ≤ n := by omega
   have htn : ((i : Int) + 1).toNat = i + 1 := by omega
   have hb3 : (i : Int) ≤ (n : Int) + 1 := by omega
   have hb2 : ¬ (c = i + 1) := by omega
   have hb4 : ¬ (c = i) := by omega
   have mixed : Tryz.prog.follows .mixedOrders = true := by kernel_rfl
   go_enter Tryz.func115, Tryz.ntmps115
   go_wp2_with (simp only [hov])
   go_region_law_o (refine step_copy_runI rfl _ _ 26 26 rfl _ _ (by simp [Act.eval, Act.put]) (by simp [Act.eval, Act.put]) (hcp1 _ _ _) ?_)
   go_wp2_with (at_builtin; refine wpList_copy_runI _ rfl _ _ 26 26 rfl _ _ rfl rfl (hcp2 _ _) ?_)
   go_ret
   exact ⟨rfl, rfl⟩
 end_ := by
   intro g n c vb vc w v' w' hnc hc63 hap
   have mixed : Tryz.prog.follows .mixedOrders = true := by kernel_rfl
   by_cases hcn : c = n
   · subst hcn
     go_enter Tryz.func115, Tryz.ntmps115
     go_wp2_with (at_builtin; refine wpList_append_runI _ rfl _ _ 26 26 rfl _ _ rfl rfl (hap _) ?_)
     go_ret
     exact ⟨rfl, rfl⟩
   · go_enter Tryz.func115, Tryz.ntmps115
     go_wp2_with (at_builtin; refine wpList_append_runI _ rfl _ _ 26 26 rfl _ _ rfl rfl (hap _) ?_)
     go_ret
     exact ⟨rfl, rfl⟩
 nil_ := by
   intro vb vc w v' w' hap
   have mixed : Tryz.prog.follows .mixedOrders = true := by kernel_rfl
   go_enter Tryz.func115, Tryz.ntmps115
   go_wp2_with (at_builtin; refine wpList_append_runI _ rfl _ _ 26 26 rfl _ _ rfl rfl (hap _) ?_)
   go_ret
   exact ⟨rfl, rfl⟩
 grow := by
   intro g n c i vb vc g2 c2 w W1 W2 W3 hi hnc hroom hn63 hc2 hc63 hap hcp1 hcp2
   have hz2 : ¬ ((i : Int) = (n : Int)) := by omega
   have hw1 : IntKind.i64.wrap ((i : Int) + 1) = (i : Int) + 1 := by rw [IntKind.wrap_i64]; omega
   have hw2 : IntKind.i64.wrap ((n : Int) + 1) = (n : Int) + 1 := by rw [IntKind.wrap_i64]; omega
   have hb1 : (0 : Int) ≤ (i : Int) + 1 := by omega
   have hin : i ≤ n := by omega
   have htn : ((i : Int) + 1).toNat = i + 1 := by omega
   have hb3 : (i : Int) ≤ (n : Int) + 1 := by omega
   have hw3 : IntKind.i64.wrap ((n : Int) + 1 - (i : Int)) = (n : Int) + 1 - (i : Int) := by rw [IntKind.wrap_i64]; omega
   have hic : i ≤ c := by omega
   have hb2 : ¬ (c2 = i + 1) := by omega
   have hb4 : ¬ (c2 = i) := by omega
   have hb5 : ¬ (c = i) := by omega
   have mixed : Tryz.prog.follows .mixedOrders = true := by kernel_rfl
   go_enter Tryz.func115, Tryz.ntmps115
   go_wp2_with (at_builtin; refine wpList_append_runI _ rfl _ _ 26 3 rfl _ _ rfl rfl (hap _) ?_)
   go_wp2_with (at_builtin; refine wpList_copy_runI _ rfl _ _ 26 26 rfl _ _ rfl rfl (hcp1 _ _) ?_)
   go_region_law_o (refine step_copy_runI rfl _ _ 26 26 rfl _ _ (by simp [Act.eval, Act.put]) (by simp [Act.eval, Act.put]) (hcp2 _ _ _) ?_)
   go_wp2
   go_ret
   exact ⟨rfl, rfl⟩
theorem insv_Tryz_115 (w : World) (a b : Value) (h : (Extern.SlicesOverlaps.overlaps #[26, 26] #[4] #[a, b]).run Tryz.prog w = .ok (.bool false) w) : (callFunc 149 #[a, b]).run Tryz.prog w = .ok (.value (.bool false)) w := by
 rw [run_callFunc_extern Tryz.func149 (by kernel_rfl) (by kernel_rfl) (by kernel_rfl) (e := Extern.SlicesOverlaps.overlaps #[26, 26] #[4]) (by kernel_rfl), h]
 rfl
end Go.Proofs
namespace Go.Sp
open Go Go.Av Go.Proofs
def enc_Int (x : Int) : List AV := [.int .i64 (x)]
def enc_Bool (x : Bool) : List AV := [.bool (x)]
def enc_Send (x : Send) : List AV := [.int .i64 (x.District), .int .i64 (x.Many)]
def enc_Node (x : Node) : List AV := [.bool (x.Test), .int .i64 (x.District), .int .i64 (x.Minute), .int .i64 (x.Limit), .int .i64 (x.Yes), .int .i64 (x.No), .int .i64 (x.Maybe), roL 2 enc_Send x.Sends]
def enc_Report (x : Report) : List AV := [.int .i64 (x.Source), .int .i64 (x.District), .int .i64 (x.Night), .int .i64 (x.From), .int .i64 (x.To), .int .i64 (x.Sight.Lo), .int .i64 (x.Sight.Hi), .int .i64 (x.Known), .int .i64 (x.Until)]
def enc_Runner (x : Runner) : List AV := [.int .i64 (x.Id), roL 1 enc_Int x.Districts]
def enc_Arr7Int (x : (Arr7 Int)) : List AV := [.int .i64 (x.x0), .int .i64 (x.x1), .int .i64 (x.x2), .int .i64 (x.x3), .int .i64 (x.x4), .int .i64 (x.x5), .int .i64 (x.x6)]
def tids : List Nat := [3, 4, 22, 23, 26, 29, 35, 45, 63, 65, 74, 76, 78, 90, 103, 107, 118, 122, 136, 140, 146, 152, 159, 163, 165, 168, 170, 185]
def Γ : Tys := [(3, ⟨.int .i64, [.int .i64 0], 1, 8⟩),
 (4, ⟨.bool, [.bool false], 1, 1⟩),
 (22, ⟨.slice 76, [.slice none 0 0], 1, 24⟩),
 (23, ⟨.slice 118, [.slice none 0 0], 1, 24⟩),
 (26, ⟨.slice 90, [.slice none 0 0], 1, 24⟩),
 (29, ⟨.int .i64, [.int .i64 0], 1, 8⟩),
 (35, ⟨.slice 3, [.slice none 0 0], 1, 24⟩),
 (45, ⟨.struct [(0, 3), (1, 3)], [.int .i64 0, .int .i64 0], 2, 16⟩),
 (63, ⟨.slice 146, [.slice none 0 0], 1, 24⟩),
 (65, ⟨.array 3 3, [.int .i64 0, .int .i64 0, .int .i64 0], 3, 24⟩),
 (74, ⟨.slice 78, [.slice none 0 0], 1, 24⟩),
 (76, ⟨.struct [(0, 4), (1, 3), (2, 3), (3, 3), (4, 3), (5, 3), (6, 3), (7, 74)], [.bool false, .int .i64 0, .int .i64 0, .int .i64 0, .int .i64 0, .int .i64 0, .int .i64 0, .slice none 0 0], 8, 80⟩),
 (78, ⟨.struct [(0, 3), (1, 3)], [.int .i64 0, .int .i64 0], 2, 16⟩),
 (90, ⟨.struct [(0, 3), (1, 3), (2, 3), (3, 3), (4, 3), (5, 45), (7, 3), (8, 3)], [.int .i64 0, .int .i64 0, .int .i64 0, .int .i64 0, .int .i64 0, .int .i64 0, .int .i64 0, .int .i64 0, .int .i64 0], 9, 72⟩),
 (103, ⟨.func, [.nilFunc], 1, 8⟩),
 (107, ⟨.slice 90, [.slice none 0 0], 1, 24⟩),
 (118, ⟨.struct [(0, 3), (1, 35)], [.int .i64 0, .slice none 0 0], 2, 32⟩),
 (122, ⟨.struct [(0, 3), (1, 3), (2, 3), (3, 3), (4, 45), (6, 3)], [.int .i64 0, .int .i64 0, .int .i64 0, .int .i64 0, .int .i64 0, .int .i64 0, .int .i64 0], 7, 56⟩),
 (136, ⟨.func, [.nilFunc], 1, 8⟩),
 (140, ⟨.map 3 4, [.map none], 1, 8⟩),
 (146, ⟨.array 7 3, [.int .i64 0, .int .i64 0, .int .i64 0, .int .i64 0, .int .i64 0, .int .i64 0, .int .i64 0], 7, 56⟩),
 (152, ⟨.slice 4, [.slice none 0 0], 1, 24⟩),
 (159, ⟨.func, [.nilFunc], 1, 8⟩),
 (163, ⟨.func, [.nilFunc], 1, 8⟩),
 (165, ⟨.map 3 3, [.map none], 1, 8⟩),
 (168, ⟨.ptr 170, [.pointer none], 1, 8⟩),
 (170, ⟨.struct [(0, 23), (1, 35), (2, 35), (3, 152)], [.slice none 0 0, .slice none 0 0, .slice none 0 0, .slice none 0 0], 4, 96⟩),
 (185, ⟨.int .u64, [.int .u64 0], 1, 8⟩)]
theorem Γ_ok : mkTys Tryz.prog tids = some Γ := by kernel_rfl
theorem env : Env Tryz.prog Γ := ⟨mkTys_sound Γ_ok, by decide +kernel, by kernel_rfl⟩
def sort_ren : Go.Shelf.Ren where
 f := fun x => match x with
   | 189 => 126
   | 125 => 152
   | 257 => 151
   | 128 => 168
   | 129 => 169
   | 294 => 159
   | 295 => 160
   | 296 => 161
   | 297 => 162
   | 298 => 163
   | 299 => 164
   | 216 => 165
   | 300 => 166
   | 301 => 167
   | 328 => 171
   | 329 => 172
   | 330 => 173
   | 331 => 174
   | 332 => 175
   | 215 => 157
   | 343 => 176
   | n => n
 t := fun x => match x with
   | 28 => 35
   | 3 => 3
   | 46 => 185
   | 0 => 0
   | 51 => 198
   | 53 => 200
   | 4 => 4
   | 183 => 193
   | 182 => 192
   | 131 => 157
   | 5 => 5
   | 9 => 9
   | 218 => 202
   | 222 => 206
   | 228 => 208
   | 229 => 209
   | n => n
 g := fun x => x
theorem sort_lays : Go.Proofs.Lays.n189 Tryz.prog sort_ren :=
 {
   mixed := by kernel_rfl,
   f125 := Tryz.func152.trans (congrArg some (by kernel_rfl)),
   f128 := Tryz.func168.trans (congrArg some (by kernel_rfl)),
   f129 := Tryz.func169.trans (congrArg some (by kernel_rfl)),
   f189 := Tryz.func126.trans (congrArg some (by kernel_rfl)),
   f215 := Tryz.func157.trans (congrArg some (by kernel_rfl)),
   f216 := Tryz.func165.trans (congrArg some (by kernel_rfl)),
   f257 := Tryz.func151.trans (congrArg some (by kernel_rfl)),
   f294 := Tryz.func159.trans (congrArg some (by kernel_rfl)),
   f295 := Tryz.func160.trans (congrArg some (by kernel_rfl)),
   f296 := Tryz.func161.trans (congrArg some (by kernel_rfl)),
   f297 := Tryz.func162.trans (congrArg some (by kernel_rfl)),
   f298 := Tryz.func163.trans (congrArg some (by kernel_rfl)),
   f299 := Tryz.func164.trans (congrArg some (by kernel_rfl)),
   f300 := Tryz.func166.trans (congrArg some (by kernel_rfl)),
   f301 := Tryz.func167.trans (congrArg some (by kernel_rfl)),
   f328 := Tryz.func171.trans (congrArg some (by kernel_rfl)),
   f329 := Tryz.func172.trans (congrArg some (by kernel_rfl)),
   f330 := Tryz.func173.trans (congrArg some (by kernel_rfl)),
   f331 := Tryz.func174.trans (congrArg some (by kernel_rfl)),
   f332 := Tryz.func175.trans (congrArg some (by kernel_rfl)),
   f343 := Tryz.func176.trans (congrArg some (by kernel_rfl)),
   t0 := Tryz.underlying0,
   a0 := Tryz.isAgg0,
   z0 := Tryz.sizeOf0,
   v0 := Tryz.zeroValue0,
   t3 := Tryz.underlying3,
   a3 := Tryz.isAgg3,
   z3 := Tryz.sizeOf3,
   v3 := Tryz.zeroValue3,
   t4 := Tryz.underlying4,
   a4 := Tryz.isAgg4,
   z4 := Tryz.sizeOf4,
   v4 := Tryz.zeroValue4,
   t5 := Tryz.underlying5,
   a5 := Tryz.isAgg5,
   z5 := Tryz.sizeOf5,
   v5 := Tryz.zeroValue5,
   t9 := Tryz.underlying9,
   a9 := Tryz.isAgg9,
   z9 := Tryz.sizeOf9,
   v9 := Tryz.zeroValue9,
   t28 := Tryz.underlying35,
   a28 := Tryz.isAgg35,
   z28 := Tryz.sizeOf35,
   v28 := Tryz.zeroValue35,
   t46 := Tryz.underlying185,
   a46 := Tryz.isAgg185,
   z46 := Tryz.sizeOf185,
   v46 := Tryz.zeroValue185,
   t51 := Tryz.underlying198,
   a51 := Tryz.isAgg198,
   z51 := Tryz.sizeOf198,
   v51 := Tryz.zeroValue198,
   t53 := Tryz.underlying200,
   a53 := Tryz.isAgg200,
   z53 := Tryz.sizeOf200,
   v53 := Tryz.zeroValue200,
   t131 := Tryz.underlying157,
   a131 := Tryz.isAgg157,
   z131 := Tryz.sizeOf157,
   v131 := Tryz.zeroValue157,
   t182 := Tryz.underlying192,
   a182 := Tryz.isAgg192,
   z182 := Tryz.sizeOf192,
   v182 := Tryz.zeroValue192,
   t183 := Tryz.underlying193,
   a183 := Tryz.isAgg193,
   z183 := Tryz.sizeOf193,
   v183 := Tryz.zeroValue193,
   t218 := Tryz.underlying202,
   a218 := Tryz.isAgg202,
   z218 := Tryz.sizeOf202,
   v218 := Tryz.zeroValue202,
   t222 := Tryz.underlying206,
   a222 := Tryz.isAgg206,
   z222 := Tryz.sizeOf206,
   v222 := Tryz.zeroValue206,
   t228 := Tryz.underlying208,
   a228 := Tryz.isAgg208,
   z228 := Tryz.sizeOf208,
   v228 := Tryz.zeroValue208,
   t229 := Tryz.underlying209,
   a229 := Tryz.isAgg209,
   z229 := Tryz.sizeOf209,
   v229 := Tryz.zeroValue209 }
theorem c_gasolierref05_Mod (p0 : Int) (p1 : Int) {r : Int} (H : gasolierref05_Mod p0 p1 = some r) : Ctr Tryz.prog 39 [.int .i64 (p0), .int .i64 (p1)] (.int .i64 (r)) := by
 unfold gasolierref05_Mod at H
 refine Ctr.of_body (N := 12) Tryz.func39 (by kernel_rfl) (c := _) rfl Tryz.ntmps39 rfl (fun w0 h0 hval => ?_)
 refine W.rg env [0, 1] [] ?_
 obtain ⟨hc1, H⟩ := of_must H
 obtain ⟨hc2, H⟩ := of_must H
 obtain ⟨hc3, H⟩ := of_must H
 refine W.sr env [] [] [4] [] rfl rfl rfl (.cons hc1 (.cons hc2 (.cons hc3 .nil))) .nil ?_
 refine W.ret ?_
 cases H
 exact At.ret env.ty rfl rfl (fun q hq => by cases hq) (.refl _) hval
theorem c_gasolierref05_Num (p0 : (List Int)) (p1 : Int) {r : Int} (H : gasolierref05_Num p0 p1 = some r) : Ctr Tryz.prog 50 [roL 1 enc_Int p0, .int .i64 (p1)] (.int .i64 (r)) := by
 unfold gasolierref05_Num at H
 refine Ctr.of_body (N := 15) Tryz.func50 (by kernel_rfl) (c := _) rfl Tryz.ntmps50 rfl (fun w0 h0 hval => ?_)
 refine W.rg env [0, 1] [] ?_
 refine W.seq ?_
 refine W.rg env [0, 1, 7] [] ?_
 refine W.cond rfl (fun hb1 => ?_) (fun hb1 => ?_)
 · have H := of_true H hb1
   refine W.rg env [4] [] ?_
   refine W.ret ?_
   refine At.rthen ?_
   cases H
   exact At.ret env.ty rfl rfl (fun q hq => by cases hq) (.refl _) hval
 · have H := of_false H hb1
   refine W.skip ?_
   refine At.thenC ?_
   refine W.seq ?_
   obtain ⟨y2, hy3, H⟩ := of_bindO H
   obtain ⟨hc4, H⟩ := of_must H
   refine W.region env [] [⟨.int .i64 (y2), [], 0, []⟩] rfl rfl rfl (.cons hc4 .nil) (.free (c_gasolierref05_Mod p1 ((p0.length : Nat) : Int) hy3) .nil) (At.keep (ts := [4]) (ids := []) rfl rfl ?_)
   refine At.thenC ?_
   refine W.ret ?_
   cases H
   exact At.ret env.ty rfl rfl (fun q hq => by cases hq) (.refl _) hval
theorem c_gasolierref05_True (p0 : (List Int)) (p1 : Int) (p2 : Int) {r : Int} (H : gasolierref05_True p0 p1 p2 = some r) : Ctr Tryz.prog 145 [roL 1 enc_Int p0, .int .i64 (p1), .int .i64 (p2)] (.int .i64 (r)) := by
 unfold gasolierref05_True at H
 refine Ctr.of_body (N := 17) Tryz.func145 (by kernel_rfl) (c := _) rfl Tryz.ntmps145 rfl (fun w0 h0 hval => ?_)
 refine W.rg env [0, 1, 2] [] ?_
 refine W.seq ?_
 obtain ⟨hc1, H⟩ := of_must H
 obtain ⟨y2, hy3, H⟩ := of_bindO H
 obtain ⟨hc4, H⟩ := of_must H
 obtain ⟨y5, hy6, H⟩ := of_bindO H
 refine W.region env [50331659, 50331663] [⟨.int .i64 (y2), [], 0, []⟩, ⟨.int .i64 (y5), [], 0, []⟩] rfl rfl rfl (.cons hc1 (.cons hc4 .nil)) (.free (c_gasolierref05_Num p0 (wrapI (p1 + (Int.tdiv p2 90))) hy3) (.free (c_gasolierref05_Mod (wrapI (y2 + (Int.tdiv p2 60))) 900 hy6) .nil)) (At.keep (ts := [6]) (ids := []) rfl rfl ?_)
 refine At.thenC ?_
 refine W.ret ?_
 cases H
 exact At.ret env.ty rfl rfl (fun q hq => by cases hq) (.refl _) hval
theorem c_gasolierref05_reach (fuel : Nat) (p0 : (List Int)) (p1 : Int) (p2 : Int) (p3 : Int) {r : Range} (H : gasolierref05_reach fuel p0 p1 p2 p3 = some r) : Ctr Tryz.prog 103 [roL 1 enc_Int p0, .int .i64 (p1), .int .i64 (p2), .int .i64 (p3)] (.agg [.int .i64 (r.Lo), .int .i64 (r.Hi)]) := by
 unfold gasolierref05_reach at H
 refine Ctr.of_body (N := 34) Tryz.func103 (by kernel_rfl) (c := _) rfl Tryz.ntmps103 rfl (fun w0 h0 hval => ?_)
 refine W.rg env [0, 1, 2, 3, 8] [8] ?_
 refine W.rg env [0, 1, 2, 3, 8, 9] [8, 9] ?_
 refine W.seq ?_
 refine W.rg env [0, 1, 3, 8, 9, 10] [8, 9] ?_
 refine W.block ?_
 refine At.keep (ts := [0, 1, 3, 8, 9, 10]) (ids := [8, 9]) rfl rfl ?_
 refine W.loopGo H (fun (s1 : Int × Range) => [(0, roL 1 enc_Int p0), (1, .int .i64 (p1)), (3, .int .i64 (p3)), (8, .lp 8 0), (9, .lp 9 0), (10, .int .i64 (s1.1))]) (fun (s1 : Int × Range) => [(8, .cells [.int .i64 (0), .int .i64 (0)]), (9, .cells [.int .i64 (s1.2.Lo), .int .i64 (s1.2.Hi)])]) (.cons .q (.cons .qi (.cons .qi (.cons .q (.cons .q (.cons .qi .nil)))))) (.cons .q (.cons .q .nil)) (fun k1 s1 H K0 hK1 => ?_)
 refine W.seq ?_
 refine W.rg env [0, 1, 3, 8, 9, 10, 16] [8, 9] ?_
 refine W.cond rfl (fun hb2 => ?_) (fun hb2 => ?_)
 · have H := of_true H hb2
   refine W.skip ?_
   refine At.thenC ?_
   refine W.seq ?_
   refine W.block ?_
   refine W.seq ?_
   obtain ⟨y3, hy4, H⟩ := of_bindO H
   refine W.region env [] [⟨.int .i64 (y3), [], 0, []⟩] rfl rfl rfl .nil (.free (c_gasolierref05_True p0 p1 s1.1 hy4) .nil) (At.keep (ts := [0, 1, 3, 8, 9, 10, 11]) (ids := [8, 9]) rfl rfl ?_)
   refine At.thenC ?_
   refine W.rg env [0, 1, 3, 8, 9, 10, 11] [8, 9] ?_
   refine W.region env [] [] rfl rfl rfl .nil .nil (At.keep (ts := [0, 1, 3, 8, 9, 10]) (ids := [8, 9]) rfl rfl ?_)
   refine At.inb ?_
   refine At.thenC ?_
   obtain ⟨hc5, H⟩ := of_must H
   refine W.region env [] [] rfl rfl rfl (.cons hc5 .nil) .nil (At.keep (ts := [0, 1, 3, 8, 9, 10]) (ids := [8, 9]) rfl rfl ?_)
   refine At.thenK (At.keep (ts := [0, 1, 3, 8, 9, 10]) (ids := [8, 9]) rfl rfl ?_)
   exact At.conv (.cons .q (.cons .qi (.cons .qi (.cons .q (.cons .q (.cons .qi .nil)))))) (.cons .q (.cons .q .nil)) (hK1 ((s1.1 + 1), (⟨(min s1.2.Lo y3), (max s1.2.Hi y3)⟩ : Range)) H)
 · have H := of_false H hb2
   refine W.exit ?_
   refine At.xthen ?_
   refine At.xthen ?_
   refine At.xhere ?_
   refine At.thenC ?_
   refine W.rg env [8] [8] ?_
   refine W.ret ?_
   cases H
   exact At.ret env.ty rfl rfl (fun q hq => by cases hq) (.refl _) hval
theorem c_gasolierref05_Made (fuel : Nat) (p0 : (List (Arr7 Int))) (p1 : (List Int)) {r : (List Report)} (H : gasolierref05_Made fuel p0 p1 = some r) : Ctr Tryz.prog 34 [roL 7 enc_Arr7Int p0, roL 1 enc_Int p1] (roL 9 enc_Report r) := by
 unfold gasolierref05_Made at H
 refine Ctr.of_body (N := 110) Tryz.func34 (by kernel_rfl) (c := _) rfl Tryz.ntmps34 rfl (fun w0 h0 hval => ?_)
 refine W.rg env [0, 1] [] ?_
 refine W.rg env [0, 1, 5] [] ?_
 refine W.seq ?_
 refine W.rg env [0, 1, 5, 6] [] ?_
 refine W.block ?_
 refine At.nilOwn 5 505 90 9 (e := fun i => enc_Report (([] : List Report).getD i default)) rfl rfl ?_
 refine At.keep (ts := [0, 1, 5, 6]) (ids := [505]) rfl rfl ?_
 refine W.loopGo H (fun (s1 : Int × (List Report)) => [(0, roL 7 enc_Arr7Int p0), (1, roL 1 enc_Int p1), (5, .buf 505 (s1.2).length), (6, .int .i64 (s1.1))]) (fun (s1 : Int × (List Report)) => [(505, bufL 90 9 enc_Report s1.2)]) (.cons .q (.cons .q (.cons .qb (.cons .qi .nil)))) (.cons .q .nil) (fun k1 s1 H K0 hK1 => ?_)
 refine W.seq ?_
 refine W.sr env [] [] [0, 1, 5, 6, 17] [505] rfl rfl rfl (.cons (fun h => h) (.cons (fun h => h) .nil)) .nil ?_
 refine W.cond rfl (fun hb2 => ?_) (fun hb2 => ?_)
 · have H := of_true H hb2
   refine W.skip ?_
   refine At.thenC ?_
   refine W.seq ?_
   refine W.block ?_
   obtain ⟨hc3, H⟩ := of_must H
   refine W.sr env [] [] [0, 1, 5, 6, 7] [7, 505] rfl rfl rfl (.cons hc3 .nil) .nil ?_
   refine W.seq ?_
   obtain ⟨hc4, H⟩ := of_must H
   obtain ⟨y5, hy6, H⟩ := of_bindO H
   obtain ⟨hc7, H⟩ := of_must H
   obtain ⟨y8, hy9, H⟩ := of_bindO H
   refine W.region env [50331673] [⟨.int .i64 (y5), [], 0, []⟩, ⟨.int .i64 (y8), [], 0, []⟩] rfl rfl (by kernel_rfl) (.cons hc4 (.cons (by decide) (.cons hc7 (.cons (by decide) .nil)))) (.free (c_gasolierref05_Mod ((p0.getD (s1.1).toNat default).x0) 3 hy6) (.free (c_gasolierref05_Mod ((p0.getD (s1.1).toNat default).x1) 1300 hy9) .nil)) (At.keep (ts := [0, 1, 5, 6, 7, 8]) (ids := [7, 8, 505]) rfl rfl ?_)
   refine At.thenC ?_
   refine W.seq ?_
   obtain ⟨y10, hy11, H⟩ := of_bindO H
   obtain ⟨hc12, H⟩ := of_must H
   refine W.region env [] [⟨.int .i64 (y10), [], 0, []⟩] rfl rfl (by kernel_rfl) (.cons (by decide) (.cons hc12 .nil)) (.free (c_gasolierref05_Mod ((p0.getD (s1.1).toNat default).x2) 139 hy11) .nil) (At.keep (ts := [0, 1, 5, 6, 7, 8]) (ids := [7, 8, 505]) rfl rfl ?_)
   refine At.thenC ?_
   refine W.seq ?_
   obtain ⟨y13, hy14, H⟩ := of_bindO H
   refine W.region env [] [⟨.agg [.int .i64 (y13.Lo), .int .i64 (y13.Hi)], [], 0, []⟩] rfl rfl rfl .nil (.free (c_gasolierref05_reach fuel p1 (1 + y5) y8 (y8 + y10) hy14) .nil) (At.keep (ts := [0, 1, 5, 6, 7, 8, 9]) (ids := [7, 8, 9, 505]) rfl rfl ?_)
   refine At.thenC ?_
   refine W.seq ?_
   obtain ⟨y15, hy16, H⟩ := of_bindO H
   obtain ⟨hc17, H⟩ := of_must H
   obtain ⟨y18, hy19, H⟩ := of_bindO H
   obtain ⟨hc20, H⟩ := of_must H
   refine W.region env [] [⟨.int .i64 (y15), [], 0, []⟩, ⟨.int .i64 (y18), [], 0, []⟩] rfl rfl (by kernel_rfl) (.cons (by decide) (.cons hc17 (.cons (by decide) (.cons hc20 .nil)))) (.free (c_gasolierref05_Mod ((p0.getD (s1.1).toNat default).x3) 300 hy16) (.free (c_gasolierref05_Mod ((p0.getD (s1.1).toNat default).x4) 300 hy19) .nil)) (At.keep (ts := [0, 1, 5, 6, 7, 8]) (ids := [7, 8, 505]) rfl rfl ?_)
   refine At.thenC ?_
   refine W.seq ?_
   refine W.seq ?_
   obtain ⟨y21, hy22, H⟩ := of_bindO H
   refine W.region env [] [⟨.int .i64 (y21), [], 0, []⟩] rfl rfl rfl (.cons (by decide) .nil) (.free (c_gasolierref05_Mod ((p0.getD (s1.1).toNat default).x6) 7 hy22) .nil) (At.keep (ts := [0, 1, 5, 6, 7, 8, 69]) (ids := [7, 8, 505]) rfl rfl ?_)
   refine At.thenC ?_
   refine W.joinC H (fun (s23 : Report) => [(0, roL 7 enc_Arr7Int p0), (1, roL 1 enc_Int p1), (5, .buf 505 (s1.2).length), (6, .int .i64 (s1.1)), (7, .lp 7 0), (8, .lp 8 0)]) (fun (s23 : Report) => [(7, .cells [.int .i64 ((p0.getD (s1.1).toNat default).x0), .int .i64 ((p0.getD (s1.1).toNat default).x1), .int .i64 ((p0.getD (s1.1).toNat default).x2), .int .i64 ((p0.getD (s1.1).toNat default).x3), .int .i64 ((p0.getD (s1.1).toNat default).x4), .int .i64 ((p0.getD (s1.1).toNat default).x5), .int .i64 ((p0.getD (s1.1).toNat default).x6)]), (8, .cells [.int .i64 (s23.Source), .int .i64 (s23.District), .int .i64 (s23.Night), .int .i64 (s23.From), .int .i64 (s23.To), .int .i64 (s23.Sight.Lo), .int .i64 (s23.Sight.Hi), .int .i64 (s23.Known), .int .i64 (s23.Until)]), (505, bufL 90 9 enc_Report s1.2)]) (fun s23 H => ?_) (fun k23 H hK23 => ?_)
   · refine W.seq ?_
     refine W.seq ?_
     obtain ⟨y24, hy25, H⟩ := of_bindO H
     refine W.region env [] [⟨.int .i64 (y24), [], 0, []⟩] rfl rfl rfl (.cons (by decide) .nil) (.free (c_gasolierref05_Mod ((p0.getD (s1.1).toNat default).x6) 11 hy25) .nil) (At.keep (ts := [0, 1, 5, 6, 7, 8, 85]) (ids := [7, 8, 505]) rfl rfl ?_)
     refine At.thenC ?_
     refine W.joinC H (fun (s26 : Report) => [(0, roL 7 enc_Arr7Int p0), (1, roL 1 enc_Int p1), (5, .buf 505 (s1.2).length), (6, .int .i64 (s1.1)), (7, .lp 7 0), (8, .lp 8 0)]) (fun (s26 : Report) => [(7, .cells [.int .i64 ((p0.getD (s1.1).toNat default).x0), .int .i64 ((p0.getD (s1.1).toNat default).x1), .int .i64 ((p0.getD (s1.1).toNat default).x2), .int .i64 ((p0.getD (s1.1).toNat default).x3), .int .i64 ((p0.getD (s1.1).toNat default).x4), .int .i64 ((p0.getD (s1.1).toNat default).x5), .int .i64 ((p0.getD (s1.1).toNat default).x6)]), (8, .cells [.int .i64 (s26.Source), .int .i64 (s26.District), .int .i64 (s26.Night), .int .i64 (s26.From), .int .i64 (s26.To), .int .i64 (s26.Sight.Lo), .int .i64 (s26.Sight.Hi), .int .i64 (s26.Known), .int .i64 (s26.Until)]), (505, bufL 90 9 enc_Report s1.2)]) (fun s26 H => ?_) (fun k26 H hK26 => ?_)
     · refine W.seq ?_
       obtain ⟨y27, hy28, H⟩ := of_bindO H
       obtain ⟨hc29, H⟩ := of_must H
       refine W.region env [] [⟨.int .i64 (y27), [], 0, []⟩] rfl rfl rfl (.cons (by decide) (.cons hc29 .nil)) (.free (c_gasolierref05_Mod ((p0.getD (s1.1).toNat default).x5) 1440 hy28) .nil) (At.keep (ts := [0, 1, 5, 6, 7, 8]) (ids := [7, 8, 505]) rfl rfl ?_)
       refine At.thenC ?_
       refine W.seq ?_
       refine W.seq ?_
       obtain ⟨y30, hy31, H⟩ := of_bindO H
       refine W.region env [] [⟨.int .i64 (y30), [], 0, []⟩] rfl rfl rfl (.cons (by decide) .nil) (.free (c_gasolierref05_Mod ((p0.getD (s1.1).toNat default).x6) 5 hy31) .nil) (At.keep (ts := [0, 1, 5, 6, 7, 8, 95]) (ids := [7, 8, 505]) rfl rfl ?_)
       refine At.thenC ?_
       refine W.joinC H (fun (s32 : Report) => [(0, roL 7 enc_Arr7Int p0), (1, roL 1 enc_Int p1), (5, .buf 505 (s1.2).length), (6, .int .i64 (s1.1)), (8, .lp 8 0)]) (fun (s32 : Report) => [(8, .cells [.int .i64 (s32.Source), .int .i64 (s32.District), .int .i64 (s32.Night), .int .i64 (s32.From), .int .i64 (s32.To), .int .i64 (s32.Sight.Lo), .int .i64 (s32.Sight.Hi), .int .i64 (s32.Known), .int .i64 (s32.Until)]), (505, bufL 90 9 enc_Report s1.2)]) (fun s32 H => ?_) (fun k32 H hK32 => ?_)
       · obtain ⟨hc33, H⟩ := of_must H
         refine W.region env [] [] rfl rfl rfl (.cons (⟨by first | rfl | (simp; done) | omega | (simp; omega), by have := hc33; first | simpa using this | (unfold room at this ⊢; simp at this ⊢; omega)⟩) .nil) .nil (At.keep (ts := [0, 1, 5, 6]) (ids := [505]) rfl rfl ?_)
         refine At.convM (.cons (y := bufL 90 9 enc_Report (s1.2 ++ ([s32] : List Report))) (BSim.seg (Seg.push (Seg.refl enc_Report _) (Seg.lit (f := enc_Report) (sz := 9) ([s32] : List Report) rfl rfl (fun _ => rfl)))) .nil) ?_
         refine At.inb ?_
         refine At.thenC ?_
         obtain ⟨hc34, H⟩ := of_must H
         refine W.region env [] [] rfl rfl rfl (.cons hc34 .nil) .nil (At.keep (ts := [0, 1, 5, 6]) (ids := [505]) rfl rfl ?_)
         refine At.thenK (At.keep (ts := [0, 1, 5, 6]) (ids := [505]) rfl rfl ?_)
         exact At.conv (.cons .q (.cons .q (.cons .qb (.cons .qi .nil)))) (.cons .q .nil) (hK1 ((s1.1 + 1), (s1.2 ++ ([s32] : List Report))) H)
       · refine W.cond rfl (fun hb35 => ?_) (fun hb35 => ?_)
         · have H := of_true H hb35
           obtain ⟨hc36, H⟩ := of_must H
           obtain ⟨y37, hy38, H⟩ := of_bindO H
           obtain ⟨hc39, H⟩ := of_must H
           refine W.region env [50331749] [⟨.int .i64 (y37), [], 0, []⟩] rfl rfl (by kernel_rfl) (.cons hc36 (.cons (by decide) (.cons hc39 .nil))) (.free (c_gasolierref05_Mod (wrapI ((p0.getD (s1.1).toNat default).x5 * 7)) 600 hy38) .nil) (At.keep (ts := [0, 1, 5, 6, 8]) (ids := [8, 505]) rfl rfl ?_)
           refine At.thenK (At.keep (ts := [0, 1, 5, 6, 8]) (ids := [8, 505]) rfl rfl ?_)
           exact At.conv (.cons .q (.cons .q (.cons .qb (.cons .qi (.cons .q .nil))))) (.cons .q (.cons .q .nil)) (hK32 (⟨s26.Source, s26.District, s26.Night, s26.From, s26.To, s26.Sight, (4320 + y27), (((4320 + y27) + 1) + y37)⟩ : Report) H)
         · have H := of_false H hb35
           refine W.skip ?_
           refine At.thenK (At.keep (ts := [0, 1, 5, 6, 8]) (ids := [8, 505]) rfl rfl ?_)
           exact At.conv (.cons .q (.cons .q (.cons .qb (.cons .qi (.cons .q .nil))))) (.cons .q (.cons .q .nil)) (hK32 (⟨s26.Source, s26.District, s26.Night, s26.From, s26.To, s26.Sight, (4320 + y27), s26.Until⟩ : Report) H)
     · refine W.cond rfl (fun hb40 => ?_) (fun hb40 => ?_)
       · have H := of_true H hb40
         refine W.region env [] [] rfl rfl rfl .nil .nil (At.keep (ts := [0, 1, 5, 6, 7, 8]) (ids := [7, 8, 505]) rfl rfl ?_)
         refine At.thenK (At.keep (ts := [0, 1, 5, 6, 7, 8]) (ids := [7, 8, 505]) rfl rfl ?_)
         exact At.conv (.cons .q (.cons .q (.cons .qb (.cons .qi (.cons .q (.cons .q .nil)))))) (.cons .q (.cons .q (.cons .q .nil))) (hK26 (⟨s23.Source, s23.District, 4, s23.From, s23.To, s23.Sight, s23.Known, s23.Until⟩ : Report) H)
       · have H := of_false H hb40
         refine W.skip ?_
         refine At.thenK (At.keep (ts := [0, 1, 5, 6, 7, 8]) (ids := [7, 8, 505]) rfl rfl ?_)
         exact At.conv (.cons .q (.cons .q (.cons .qb (.cons .qi (.cons .q (.cons .q .nil)))))) (.cons .q (.cons .q (.cons .q .nil))) (hK26 s23 H)
   · refine W.cond rfl (fun hb41 => ?_) (fun hb41 => ?_)
     · have H := of_true H hb41
       obtain ⟨y42, hy43, H⟩ := of_bindO H
       obtain ⟨y44, hy45, H⟩ := of_bindO H
       obtain ⟨y46, hy47, H⟩ := of_bindO H
       obtain ⟨hc48, H⟩ := of_must H
       refine W.region env [] [⟨.int .i64 (y42), [], 0, []⟩, ⟨.int .i64 (y44), [], 0, []⟩, ⟨.int .i64 (y46), [], 0, []⟩] rfl rfl (by kernel_rfl) (.cons (by decide) (.cons (by decide) (.cons (by decide) (.cons hc48 .nil)))) (.free (c_gasolierref05_Mod ((p0.getD (s1.1).toNat default).x3) 600 hy43) (.free (c_gasolierref05_Mod ((p0.getD (s1.1).toNat default).x3) 600 hy45) (.free (c_gasolierref05_Mod ((p0.getD (s1.1).toNat default).x4) 60 hy47) .nil))) (At.keep (ts := [0, 1, 5, 6, 7, 8]) (ids := [7, 8, 505]) rfl rfl ?_)
       refine At.thenK (At.keep (ts := [0, 1, 5, 6, 7, 8]) (ids := [7, 8, 505]) rfl rfl ?_)
       exact At.conv (.cons .q (.cons .q (.cons .qb (.cons .qi (.cons .q (.cons .q .nil)))))) (.cons .q (.cons .q (.cons .q .nil))) (hK23 (⟨((wrapI (4 * s1.1)) + 3), (1 + y5), 3, y8, (y8 + y10), (⟨y42, (y44 + y46)⟩ : Range), 0, 0⟩ : Report) H)
     · have H := of_false H hb41
       refine W.skip ?_
       refine At.thenK (At.keep (ts := [0, 1, 5, 6, 7, 8]) (ids := [7, 8, 505]) rfl rfl ?_)
       exact At.conv (.cons .q (.cons .q (.cons .qb (.cons .qi (.cons .q (.cons .q .nil)))))) (.cons .q (.cons .q (.cons .q .nil))) (hK23 (⟨((wrapI (4 * s1.1)) + 3), (1 + y5), 3, y8, (y8 + y10), (⟨(max 0 (y13.Lo - y15)), (min 5000 (y13.Hi + y18))⟩ : Range), 0, 0⟩ : Report) H)
 · have H := of_false H hb2
   refine W.exit ?_
   refine At.xthen ?_
   refine At.xthen ?_
   refine At.xhere ?_
   refine At.thenC ?_
   refine W.rg env [4] [505] ?_
   refine W.ret ?_
   cases H
   exact At.ret env.ty rfl rfl (fun q hq => by cases hq; exact (by first | rfl | (simp; done) | omega | (simp; omega))) (.refl _) hval
theorem c_fog_within (p0 : Int) (p1 : Int) (p2 : Int) : Ctr Tryz.prog 91 [.int .i64 (p0), .int .i64 (p1), .int .i64 (p2)] (.bool ((fog_within p0 p1 p2))) := by
 obtain ⟨r, H⟩ : ∃ r, fog_within p0 p1 p2 = r := ⟨_, rfl⟩
 rw [H]
 unfold fog_within at H
 refine Ctr.of_body (N := 15) Tryz.func91 (by kernel_rfl) (c := _) rfl Tryz.ntmps91 rfl (fun w0 h0 hval => ?_)
 refine W.rg env [0, 1, 2] [] ?_
 refine W.sr env [] [] [6] [] rfl rfl rfl (.cons (fun h => h) (.cons (fun h => h) (.cons (fun h => h) .nil))) .nil ?_
 refine W.ret ?_
 cases H
 exact At.ret env.ty rfl rfl (fun q hq => by cases hq) (.refl _) hval
theorem c_fog_isDistrict (p0 : Int) : Ctr Tryz.prog 92 [.int .i64 (p0)] (.bool ((fog_isDistrict p0))) := by
 obtain ⟨r, H⟩ : ∃ r, fog_isDistrict p0 = r := ⟨_, rfl⟩
 rw [H]
 unfold fog_isDistrict at H
 refine Ctr.of_body (N := 5) Tryz.func92 (by kernel_rfl) (c := _) rfl Tryz.ntmps92 rfl (fun w0 h0 hval => ?_)
 refine W.rg env [0] [] ?_
 refine W.sr env [] [⟨.bool ((fog_within p0 1 9)), [], 0, []⟩] [2] [] rfl rfl rfl .nil (.free (c_fog_within p0 1 9) .nil) ?_
 refine W.ret ?_
 cases H
 exact At.ret env.ty rfl rfl (fun q hq => by cases hq) (.refl _) hval
theorem c_fog_isNight (p0 : Int) : Ctr Tryz.prog 120 [.int .i64 (p0)] (.bool ((fog_isNight p0))) := by
 obtain ⟨r, H⟩ : ∃ r, fog_isNight p0 = r := ⟨_, rfl⟩
 rw [H]
 unfold fog_isNight at H
 refine Ctr.of_body (N := 5) Tryz.func120 (by kernel_rfl) (c := _) rfl Tryz.ntmps120 rfl (fun w0 h0 hval => ?_)
 refine W.rg env [0] [] ?_
 refine W.sr env [] [⟨.bool ((fog_within p0 0 100000)), [], 0, []⟩] [2] [] rfl rfl rfl .nil (.free (c_fog_within p0 0 100000) .nil) ?_
 refine W.ret ?_
 cases H
 exact At.ret env.ty rfl rfl (fun q hq => by cases hq) (.refl _) hval
theorem c_fog_isRange (p0 : Range) (p1 : Int) : Ctr Tryz.prog 121 [.agg [.int .i64 (p0.Lo), .int .i64 (p0.Hi)], .int .i64 (p1)] (.bool ((fog_isRange p0 p1))) := by
 obtain ⟨r, H⟩ : ∃ r, fog_isRange p0 p1 = r := ⟨_, rfl⟩
 rw [H]
 unfold fog_isRange at H
 refine Ctr.of_body (N := 21) Tryz.func121 (by kernel_rfl) (c := _) rfl Tryz.ntmps121 rfl (fun w0 h0 hval => ?_)
 refine W.rg env [1, 2] [2] ?_
 refine W.sr env [] [] [4] [] rfl rfl rfl (.cons (fun h => h) (.cons (fun h => h) (.cons (fun h => h) (.cons (fun h => h) (.cons (fun h => h) (.cons (fun h => h) (.cons (fun h => h) (.cons (fun h => h) (.cons (fun h => h) .nil))))))))) .nil ?_
 refine W.ret ?_
 cases H
 exact At.ret env.ty rfl rfl (fun q hq => by cases hq) (.refl _) hval
theorem c_fog_isMoment (p0 : Int) : Ctr Tryz.prog 116 [.int .i64 (p0)] (.bool ((fog_isMoment p0))) := by
 obtain ⟨r, H⟩ : ∃ r, fog_isMoment p0 = r := ⟨_, rfl⟩
 rw [H]
 unfold fog_isMoment at H
 refine Ctr.of_body (N := 5) Tryz.func116 (by kernel_rfl) (c := _) rfl Tryz.ntmps116 rfl (fun w0 h0 hval => ?_)
 refine W.rg env [0] [] ?_
 refine W.sr env [] [⟨.bool ((fog_within p0 0 144001439)), [], 0, []⟩] [2] [] rfl rfl rfl .nil (.free (c_fog_within p0 0 144001439) .nil) ?_
 refine W.ret ?_
 cases H
 exact At.ret env.ty rfl rfl (fun q hq => by cases hq) (.refl _) hval
theorem c_fog_CheckReport (p0 : Report) : Ctr Tryz.prog 56 [.agg [.int .i64 (p0.Source), .int .i64 (p0.District), .int .i64 (p0.Night), .int .i64 (p0.From), .int .i64 (p0.To), .int .i64 (p0.Sight.Lo), .int .i64 (p0.Sight.Hi), .int .i64 (p0.Known), .int .i64 (p0.Until)]] (.int .i64 ((fog_CheckReport p0))) := by
 obtain ⟨r, H⟩ : ∃ r, fog_CheckReport p0 = r := ⟨_, rfl⟩
 rw [H]
 unfold fog_CheckReport at H
 refine Ctr.of_body (N := 58) Tryz.func56 (by kernel_rfl) (c := _) rfl Tryz.ntmps56 rfl (fun w0 h0 hval => ?_)
 refine W.rg env [1] [1] ?_
 refine W.seq ?_
 refine W.sr env [] [⟨.bool ((fog_within p0.Source 1 99999)), [], 0, []⟩, ⟨.bool ((fog_isDistrict p0.District)), [], 0, []⟩, ⟨.bool ((fog_isNight p0.Night)), [], 0, []⟩, ⟨.bool ((fog_isRange (⟨p0.From, p0.To⟩ : Range) 1439)), [], 0, []⟩, ⟨.bool ((fog_isRange p0.Sight 5000)), [], 0, []⟩, ⟨.bool ((fog_isMoment p0.Known)), [], 0, []⟩, ⟨.bool ((fog_isMoment p0.Until)), [], 0, []⟩] [57] [] rfl rfl rfl (.cons (fun h => h) (.cons (fun h => h) (.cons (fun h => h) (.cons (fun h => by rw [h]; rfl) (.cons (fun h => h) (.cons (fun h => h) (.cons (fun h => h) (.cons (fun h => by rw [h]; rfl) (.cons (fun h => h) (.cons (fun h => h) (.cons (fun h => h) (.cons (fun h => h) (.cons (fun h => h) (.cons (fun h => h) (.cons (fun h => by rw [h]; rfl) (.cons (fun h => h) (.cons (fun h => h) (.cons (fun h => h) (.cons (fun h => by rw [h]; rfl) (.cons (fun h => h) (.cons (fun h => h) (.cons (fun h => h) (.cons (fun h => by rw [h]; rfl) (.cons (fun h => h) (.cons (fun h => h) (.cons (fun h => h) (.cons (fun h => h) (.cons (fun h => h) (.cons (fun h => h) (.cons (fun h => h) (.cons (fun h => h) (.cons (fun h => h) (.cons (fun h => h) (.cons (fun h => h) (.cons (fun h => h) (.cons (fun hW h => by revert hW h; first | (simp +contextual; done) | grind) (.cons (fun h => h) (.cons (fun hW h => by revert hW h; first | (simp +contextual; done) | grind) (.cons (fun h => by rw [h]; rfl) .nil))))))))))))))))))))))))))))))))))))))) (.free (c_fog_within p0.Source 1 99999) (.on (fun hW => c_fog_isDistrict p0.District) (.on (fun hW => c_fog_isNight p0.Night) (.on (fun hW => c_fog_isRange (⟨p0.From, p0.To⟩ : Range) 1439) (.on (fun hW => c_fog_isRange p0.Sight 5000) (.on (fun hW => c_fog_isMoment p0.Known) (.on (fun hW => c_fog_isMoment p0.Until) .nil))))))) ?_
 refine W.cond rfl (fun hb1 => ?_) (fun hb1 => ?_)
 · have H := of_true H hb1
   refine W.rg env [2] [] ?_
   refine W.ret ?_
   refine At.rthen ?_
   cases H
   exact At.ret env.ty rfl rfl (fun q hq => by cases hq) (.refl _) hval
 · have H := of_false H hb1
   refine W.skip ?_
   refine At.thenC ?_
   refine W.rg env [2] [] ?_
   refine W.ret ?_
   cases H
   exact At.ret env.ty rfl rfl (fun q hq => by cases hq) (.refl _) hval
theorem c_cmp_isNaN_int (p0 : Int) : Ctr Tryz.prog 157 [.int .i64 (p0)] (.bool ((cmp_isNaN_int p0))) := by
 obtain ⟨r, H⟩ : ∃ r, cmp_isNaN_int p0 = r := ⟨_, rfl⟩
 rw [H]
 unfold cmp_isNaN_int at H
 refine Ctr.of_body (N := 6) Tryz.func157 (by kernel_rfl) (c := _) rfl Tryz.ntmps157 rfl (fun w0 h0 hval => ?_)
 refine W.rg env [0] [] ?_
 refine W.rg env [2] [] ?_
 refine W.ret ?_
 cases H
 exact At.ret env.ty rfl rfl (fun q hq => by cases hq) (.refl _) hval
theorem c_cmp_Compare_int (p0 : Int) (p1 : Int) : Ctr Tryz.prog 148 [.int .i64 (p0), .int .i64 (p1)] (.int .i64 ((cmp_Compare_int p0 p1))) := by
 obtain ⟨r, H⟩ : ∃ r, cmp_Compare_int p0 p1 = r := ⟨_, rfl⟩
 rw [H]
 unfold cmp_Compare_int at H
 refine Ctr.of_body (N := 20) Tryz.func148 (by kernel_rfl) (c := _) rfl Tryz.ntmps148 rfl (fun w0 h0 hval => ?_)
 refine W.rg env [0, 1] [] ?_
 refine W.sr env [] [⟨.bool ((cmp_isNaN_int p0)), [], 0, []⟩] [0, 1, 5] [] rfl rfl rfl .nil (.free (c_cmp_isNaN_int p0) .nil) ?_
 refine W.sr env [] [⟨.bool ((cmp_isNaN_int p1)), [], 0, []⟩] [0, 1, 5, 6] [] rfl rfl rfl .nil (.free (c_cmp_isNaN_int p1) .nil) ?_
 refine W.seq ?_
 refine W.rg env [0, 1, 6, 11] [] ?_
 refine W.cond rfl (fun hb1 => ?_) (fun hb1 => ?_)
 · have H := of_true H hb1
   refine W.seq ?_
   refine W.rg env [12] [] ?_
   refine W.cond rfl (fun hb2 => ?_) (fun hb2 => ?_)
   · have H := of_true H hb2
     refine W.rg env [4] [] ?_
     refine W.ret ?_
     refine At.rthen ?_
     refine At.rthen ?_
     cases H
     exact At.ret env.ty rfl rfl (fun q hq => by cases hq) (.refl _) hval
   · have H := of_false H hb2
     refine W.skip ?_
     refine At.thenC ?_
     refine W.rg env [4] [] ?_
     refine W.ret ?_
     refine At.rthen ?_
     cases H
     exact At.ret env.ty rfl rfl (fun q hq => by cases hq) (.refl _) hval
 · have H := of_false H hb1
   refine W.skip ?_
   refine At.thenC ?_
   refine W.seq ?_
   refine W.rg env [0, 1, 13] [] ?_
   refine W.cond rfl (fun hb3 => ?_) (fun hb3 => ?_)
   · have H := of_true H hb3
     refine W.rg env [4] [] ?_
     refine W.ret ?_
     refine At.rthen ?_
     cases H
     exact At.ret env.ty rfl rfl (fun q hq => by cases hq) (.refl _) hval
   · have H := of_false H hb3
     refine W.skip ?_
     refine At.thenC ?_
     refine W.seq ?_
     refine W.rg env [0, 1, 16] [] ?_
     refine W.cond rfl (fun hb4 => ?_) (fun hb4 => ?_)
     · have H := of_true H hb4
       refine W.rg env [4] [] ?_
       refine W.ret ?_
       refine At.rthen ?_
       cases H
       exact At.ret env.ty rfl rfl (fun q hq => by cases hq) (.refl _) hval
     · have H := of_false H hb4
       refine W.skip ?_
       refine At.thenC ?_
       refine W.seq ?_
       refine W.rg env [19] [] ?_
       refine W.cond rfl (fun hb5 => ?_) (fun hb5 => ?_)
       · have H := of_true H hb5
         refine W.rg env [4] [] ?_
         refine W.ret ?_
         refine At.rthen ?_
         cases H
         exact At.ret env.ty rfl rfl (fun q hq => by cases hq) (.refl _) hval
       · have H := of_false H hb5
         refine W.skip ?_
         refine At.thenC ?_
         refine W.rg env [4] [] ?_
         refine W.ret ?_
         cases H
         exact At.ret env.ty rfl rfl (fun q hq => by cases hq) (.refl _) hval
theorem c_fog_compare (p0 : Report) (p1 : Report) : Ctr Tryz.prog 114 [.agg [.int .i64 (p0.Source), .int .i64 (p0.District), .int .i64 (p0.Night), .int .i64 (p0.From), .int .i64 (p0.To), .int .i64 (p0.Sight.Lo), .int .i64 (p0.Sight.Hi), .int .i64 (p0.Known), .int .i64 (p0.Until)], .agg [.int .i64 (p1.Source), .int .i64 (p1.District), .int .i64 (p1.Night), .int .i64 (p1.From), .int .i64 (p1.To), .int .i64 (p1.Sight.Lo), .int .i64 (p1.Sight.Hi), .int .i64 (p1.Known), .int .i64 (p1.Until)]] (.int .i64 ((fog_compare p0 p1))) := by
 obtain ⟨r, H⟩ : ∃ r, fog_compare p0 p1 = r := ⟨_, rfl⟩
 rw [H]
 unfold fog_compare at H
 refine Ctr.of_body (N := 10) Tryz.func114 (by kernel_rfl) (c := _) rfl Tryz.ntmps114 rfl (fun w0 h0 hval => ?_)
 refine W.rg env [2, 3] [2, 3] ?_
 refine W.sr env [] [⟨.int .i64 ((cmp_Compare_int p0.Source p1.Source)), [], 0, []⟩] [4] [] rfl rfl rfl .nil (.free (c_cmp_Compare_int p0.Source p1.Source) .nil) ?_
 refine W.ret ?_
 cases H
 exact At.ret env.ty rfl rfl (fun q hq => by cases hq) (.refl _) hval
theorem c_fog_Check (p0 : (List Report)) {r : Int} (H : fog_Check p0 = some r) : Ctr Tryz.prog 58 [roL 9 enc_Report p0] (.int .i64 (r)) := by
 unfold fog_Check at H
 refine Ctr.of_body (N := 33) Tryz.func58 (by kernel_rfl) (c := _) rfl Tryz.ntmps58 rfl (fun w0 h0 hval => ?_)
 refine W.rg env [0] [] ?_
 refine W.seq ?_
 refine W.rg env [0, 7] [] ?_
 refine W.cond rfl (fun hb1 => ?_) (fun hb1 => ?_)
 · have H := of_true H hb1
   refine W.rg env [2] [] ?_
   refine W.ret ?_
   refine At.rthen ?_
   cases H
   exact At.ret env.ty rfl rfl (fun q hq => by cases hq) (.refl _) hval
 · have H := of_false H hb1
   refine W.skip ?_
   refine At.thenC ?_
   refine W.seq ?_
   refine W.rg env [0, 8, 9, 10] [] ?_
   refine W.block ?_
   refine At.keep (ts := [0, 8, 9, 10]) (ids := []) rfl rfl ?_
   refine W.len (t := 8) rfl (fun (hn2 : p0.length ≤ maxLen) => ?_)
   refine W.rangeGo H (fun i2 (s2 : Unit) => [(0, roL 9 enc_Report p0), (8, roL 9 enc_Report p0), (9, .int .i64 (((p0.length : Nat) : Int))), (10, .int .i64 ((i2 : Int)))]) (fun i2 (s2 : Unit) => []) (.cons .q (.cons .q (.cons .qi (.cons .qi .nil)))) .nil (fun k2 i2 s2 hle2 H1 H2 K0 hK2 => ?_)
   refine W.rg env [0, 8, 9, 10, 11] [] ?_
   refine W.seq ?_
   refine W.cond rfl (fun hb3 => ?_) (fun hb3 => ?_)
   · have hi2 : i2 < p0.length := by have := of_decide_eq_true hb3; omega
     have H := H1 hi2
     refine W.skip ?_
     refine At.thenC ?_
     refine W.seq ?_
     refine W.block ?_
     refine W.sr env [] [] [0, 3, 4, 8, 9, 10] [4] rfl rfl rfl (.cons (⟨by omega, by omega⟩ : 0 ≤ (i2 : Int) ∧ (i2 : Int) < ((p0.length : Nat) : Int)) .nil) .nil ?_
     obtain ⟨hc4, H⟩ := of_must H
     obtain ⟨hc5, H⟩ := of_must H
     refine W.sr env [] [⟨.int .i64 ((fog_CheckReport (p0.getD i2 default))), [], 0, []⟩, ⟨.int .i64 ((fog_compare (p0.getD (((i2 : Int) - 1)).toNat default) (p0.getD i2 default))), [], 0, []⟩] [0, 8, 9, 10, 31] [] rfl rfl (by kernel_rfl) (.cons (fun h => h) (.cons (fun h => h) (.cons hc4 (.cons (fun h => h) (.cons hc5 (.cons (fun h => h) (.cons (fun h => h) (.cons (fun h => h) (.cons (fun h => h) (.cons (fun h => h) (.cons (fun h => h) (.cons (fun h => h) (.cons (fun hW h => by revert hW h; first | (simp +contextual; done) | grind) (.cons (fun h => by rw [h]; rfl) .nil)))))))))))))) (.free (c_fog_CheckReport (p0.getD i2 default)) (.on (fun hW => c_fog_compare (p0.getD (((i2 : Int) - 1)).toNat default) (p0.getD i2 default)) .nil)) ?_
     refine W.cond rfl (fun hb6 => ?_) (fun hb6 => ?_)
     · have H := of_true H hb6
       refine W.rg env [2] [] ?_
       refine W.ret ?_
       refine At.rinb ?_
       refine At.rthen ?_
       refine At.rthen ?_
       refine At.rinb ?_
       refine At.rthen ?_
       cases H
       exact At.ret env.ty rfl rfl (fun q hq => by cases hq) (.refl _) hval
     · have H := of_false H hb6
       refine W.skip ?_
       refine At.inb ?_
       refine At.thenC ?_
       refine W.region env [] [] rfl rfl rfl (.cons (by unfold inI; have := hn2; (try unfold maxLen at this); omega) .nil) .nil (At.keep (ts := [0, 8, 9, 10]) (ids := []) rfl rfl ?_)
       refine At.thenK (At.keep (ts := [0, 8, 9, 10]) (ids := []) rfl rfl ?_)
       exact At.conv (.cons .q (.cons .q (.cons .qi (.cons .qi .nil)))) .nil (hK2 hi2 () H)
   · have H := H2 (by have := of_decide_eq_false hb3; omega)
     refine W.exit ?_
     refine At.xthen ?_
     refine At.xthen ?_
     refine At.xhere ?_
     refine At.thenC ?_
     refine W.rg env [2] [] ?_
     refine W.ret ?_
     cases H
     exact At.ret env.ty rfl rfl (fun q hq => by cases hq) (.refl _) hval
theorem c_slices_BinarySearchFunc_Report (fuel : Nat) (p0 : (List Report)) (p1 : Report) (p2 : Report → Report → Option Int) (p2_g : Nat) (p2_a p2_b : List AV) (p2_h : ∀ x0 x1 r, p2 x0 x1 = some r → Ctr Tryz.prog p2_g (p2_a ++ ([.agg [.int .i64 (x0.Source), .int .i64 (x0.District), .int .i64 (x0.Night), .int .i64 (x0.From), .int .i64 (x0.To), .int .i64 (x0.Sight.Lo), .int .i64 (x0.Sight.Hi), .int .i64 (x0.Known), .int .i64 (x0.Until)], .agg [.int .i64 (x1.Source), .int .i64 (x1.District), .int .i64 (x1.Night), .int .i64 (x1.From), .int .i64 (x1.To), .int .i64 (x1.Sight.Lo), .int .i64 (x1.Sight.Hi), .int .i64 (x1.Known), .int .i64 (x1.Until)]] ++ p2_b)) (.int .i64 (r))) {r : (Int × Bool)} (H : slices_BinarySearchFunc_Report fuel p0 p1 p2 = some r) : Ctr Tryz.prog 113 [roL 9 enc_Report p0, .agg [.int .i64 (p1.Source), .int .i64 (p1.District), .int .i64 (p1.Night), .int .i64 (p1.From), .int .i64 (p1.To), .int .i64 (p1.Sight.Lo), .int .i64 (p1.Sight.Hi), .int .i64 (p1.Known), .int .i64 (p1.Until)], .clo (.func p2_g) p2_a p2_b] (.tup [.int .i64 (r.1), .bool (r.2)]) := by
 unfold slices_BinarySearchFunc_Report at H
 refine Ctr.of_body (N := 49) Tryz.func113 (by kernel_rfl) (c := _) rfl Tryz.ntmps113 rfl (fun w0 h0 hval => ?_)
 refine W.rg env [0, 2, 4] [4] ?_
 refine W.rg env [0, 2, 4, 8] [4] ?_
 refine W.rg env [0, 2, 4, 8, 9, 10] [4] ?_
 refine W.seq ?_
 refine W.block ?_
 refine At.keep (ts := [0, 2, 4, 8, 9, 10]) (ids := [4]) rfl rfl ?_
 refine W.loopGo H (fun (s1 : Int × Int) => [(0, roL 9 enc_Report p0), (2, .clo (.func p2_g) p2_a p2_b), (4, .lp 4 0), (8, .int .i64 (((p0.length : Nat) : Int))), (9, .int .i64 (s1.2)), (10, .int .i64 (s1.1))]) (fun (s1 : Int × Int) => [(4, .cells [.int .i64 (p1.Source), .int .i64 (p1.District), .int .i64 (p1.Night), .int .i64 (p1.From), .int .i64 (p1.To), .int .i64 (p1.Sight.Lo), .int .i64 (p1.Sight.Hi), .int .i64 (p1.Known), .int .i64 (p1.Until)])]) (.cons .q (.cons .q (.cons .q (.cons .qi (.cons .qi (.cons .qi .nil)))))) (.cons .q .nil) (fun k1 s1 H K0 hK1 => ?_)
 refine W.seq ?_
 refine W.rg env [0, 2, 4, 8, 9, 10, 17] [4] ?_
 refine W.cond rfl (fun hb2 => ?_) (fun hb2 => ?_)
 · have H := of_true H hb2
   refine W.skip ?_
   refine At.thenC ?_
   refine W.block ?_
   obtain ⟨hc3, H⟩ := of_must H
   obtain ⟨hc4, H⟩ := of_must H
   obtain ⟨hc5, H⟩ := of_must H
   refine W.sr env [] [] [0, 2, 4, 8, 9, 10, 11] [4] rfl rfl rfl (.cons hc3 (.cons hc4 (.cons (by decide) (.cons hc5 .nil)))) .nil ?_
   refine W.seq ?_
   obtain ⟨hc6, H⟩ := of_must H
   obtain ⟨y7, hy8, H⟩ := of_bindO H
   refine W.region env [] [⟨.int .i64 (y7), [], 0, []⟩] rfl rfl (by kernel_rfl) (.cons hc6 .nil) (.free (p2_h (p0.getD ((Int.fdiv (s1.2 + s1.1) (2 ^ (1 : Int).toNat))).toNat default) p1 _ hy8) .nil) (At.keep (ts := [0, 2, 4, 8, 9, 10, 11, 31]) (ids := [4]) rfl rfl ?_)
   refine At.thenC ?_
   refine W.cond rfl (fun hb9 => ?_) (fun hb9 => ?_)
   · have H := of_true H hb9
     obtain ⟨hc10, H⟩ := of_must H
     refine W.region env [] [] rfl rfl rfl (.cons hc10 .nil) .nil (At.keep (ts := [0, 2, 4, 8, 9, 10]) (ids := [4]) rfl rfl ?_)
     refine At.inb ?_
     refine At.thenK (At.keep (ts := [0, 2, 4, 8, 9, 10]) (ids := [4]) rfl rfl ?_)
     exact At.conv (.cons .q (.cons .q (.cons .q (.cons .qi (.cons .qi (.cons .qi .nil)))))) (.cons .q .nil) (hK1 (s1.1, ((Int.fdiv (s1.2 + s1.1) (2 ^ (1 : Int).toNat)) + 1)) H)
   · have H := of_false H hb9
     refine W.region env [] [] rfl rfl rfl .nil .nil (At.keep (ts := [0, 2, 4, 8, 9, 10]) (ids := [4]) rfl rfl ?_)
     refine At.inb ?_
     refine At.thenK (At.keep (ts := [0, 2, 4, 8, 9, 10]) (ids := [4]) rfl rfl ?_)
     exact At.conv (.cons .q (.cons .q (.cons .q (.cons .qi (.cons .qi (.cons .qi .nil)))))) (.cons .q .nil) (hK1 ((Int.fdiv (s1.2 + s1.1) (2 ^ (1 : Int).toNat)), s1.2) H)
 · have H := of_false H hb2
   refine W.exit ?_
   refine At.xthen ?_
   refine At.xthen ?_
   refine At.xhere ?_
   refine At.thenC ?_
   refine W.seq ?_
   obtain ⟨hc11, H⟩ := of_must H
   obtain ⟨y12, hy13, H⟩ := of_bindO H
   refine W.region env [] [⟨.int .i64 (y12), [], 0, []⟩] rfl rfl (by kernel_rfl) (.cons hc11 (.cons (fun h => h) (.cons (fun h => h) (.cons (fun h => h) (.cons (fun h => h) (.cons (fun h => h) (.cons (fun h => h) (.cons (fun h => h) (.cons (fun h => h) .nil))))))))) (.on (fun hW => p2_h (p0.getD (s1.2).toNat default) p1 _ (of_true hy13 hW)) .nil) (At.keep (ts := [6, 7]) (ids := []) rfl rfl ?_)
   refine At.thenC ?_
   refine W.ret ?_
   cases H
   exact At.ret env.ty rfl rfl (fun q hq => by cases hq) (.refl _) hval
theorem c_slices_Clone_Report (p0 : (List Report)) {r : (List Report)} (H : slices_Clone_Report p0 = some r) : Ctr Tryz.prog 67 [roL 9 enc_Report p0] (roL 9 enc_Report r) := by
 unfold slices_Clone_Report at H
 refine Ctr.of_body (N := 8) Tryz.func67 (by kernel_rfl) (c := _) rfl Tryz.ntmps67 rfl (fun w0 h0 hval => ?_)
 refine W.rg env [0] [] ?_
 refine W.seq ?_
 refine W.rg env [0, 4] [] ?_
 refine W.condNz rfl (fun hz => ?_) ?_
 · obtain rfl : p0 = [] := List.length_eq_zero_iff.1 hz
   obtain ⟨hc1, H⟩ := of_must H
   refine W.rg env [2] [] ?_
   refine W.ret ?_
   refine At.rthen ?_
   cases H
   exact At.ret env.ty rfl rfl (fun q hq => by cases hq) (Sim.nil _ _) hval
 · refine W.skip ?_
   refine At.thenC ?_
   refine W.seq ?_
   obtain ⟨hc1, H⟩ := of_must H
   refine W.region env [5] [] rfl rfl rfl (.cons (⟨by first | rfl | (simp; done) | omega | (simp; omega), by have := hc1; first | simpa using this | (unfold room at this ⊢; simp at this ⊢; omega)⟩) .nil) .nil (At.keep (ts := [2]) (ids := [5]) rfl rfl ?_)
   refine At.convM (.cons (y := bufL 90 9 enc_Report (([] : List Report) ++ p0)) (BSim.seg (Seg.push (Seg.lit (f := enc_Report) (sz := 9) ([] : List Report) rfl rfl (fun _ => rfl)) (Seg.refl enc_Report p0))) .nil) ?_
   refine At.thenC ?_
   refine W.ret ?_
   cases H
   exact At.ret env.ty rfl rfl (fun q hq => by cases hq; exact (by first | rfl | (simp; done) | omega | (simp; omega))) (.refl _) hval
theorem co_slices_Clone_Report (p0 : (List Report)) {r : (List Report)} (H : slices_Clone_Report p0 = some r) : CtrO Tryz.prog 67 [roL 9 enc_Report p0] [] (.buf 900 r.length) [(900, bufL 90 9 enc_Report r)] := by
 unfold slices_Clone_Report at H
 refine CtrO.of_body (N := 8) Tryz.func67 (by kernel_rfl) (c := _) rfl Tryz.ntmps67 rfl (fun w0 h0 ρb hval hdom => ?_)
 refine W.rg env [0] [] ?_
 refine W.seq ?_
 refine W.rg env [0, 4] [] ?_
 refine W.condNz rfl (fun hz => ?_) ?_
 · obtain rfl : p0 = [] := List.length_eq_zero_iff.1 hz
   obtain ⟨hc1, H⟩ := of_must H
   refine W.rg env [2] [] ?_
   refine W.ret ?_
   refine At.rthen ?_
   cases H
   refine At.nilOwn 2 800 90 9 (e := fun i => enc_Report (([] : List Report).getD i default)) rfl rfl ?_
   exact At.retK env.ty [800] 100 rfl rfl rfl rfl (.cons (.refl _) .nil) (.of_eq (by refine bufEq ?_; first | (simp [copyAt]; done) | omega | (simp [copyAt]; omega) | rfl)) hval hdom rfl
 · refine W.skip ?_
   refine At.thenC ?_
   refine W.seq ?_
   obtain ⟨hc1, H⟩ := of_must H
   refine W.region env [5] [] rfl rfl rfl (.cons (⟨by first | rfl | (simp; done) | omega | (simp; omega), by have := hc1; first | simpa using this | (unfold room at this ⊢; simp at this ⊢; omega)⟩) .nil) .nil (At.keep (ts := [2]) (ids := [5]) rfl rfl ?_)
   refine At.convM (.cons (y := bufL 90 9 enc_Report (([] : List Report) ++ p0)) (BSim.seg (Seg.push (Seg.lit (f := enc_Report) (sz := 9) ([] : List Report) rfl rfl (fun _ => rfl)) (Seg.refl enc_Report p0))) .nil) ?_
   refine At.thenC ?_
   refine W.ret ?_
   cases H
   exact At.retK env.ty [5] 895 rfl rfl rfl rfl (.cons (.refl _) .nil) (.of_eq (by refine bufEq ?_; first | (simp [copyAt]; done) | omega | (simp [copyAt]; omega) | rfl)) hval hdom rfl
theorem cl_slices_Insert_Report (p0 : List Report) (p1 : Int) (p2 : Report) {r : List Report} (H : slices_Insert_Report p0 p1 p2 = some r) : CtrO Tryz.prog 115 [.buf 700 p0.length, .int .i64 p1, .buf 701 1] [(700, bufL 90 9 enc_Report p0), (701, bufL 90 9 enc_Report [p2])] (.buf 900 r.length) [(701, bufL 90 9 enc_Report [p2]), (700, .dead), (900, bufL 90 9 enc_Report r)] := by
 unfold slices_Insert_Report at H
 obtain ⟨h1, H⟩ := of_must H
 obtain ⟨h2, H⟩ := of_must H
 cases H
 exact insert_ctr (Go.Av.enters_of Tryz.func115 (by kernel_rfl) (c := _) rfl) insw_Tryz_115 insv_Tryz_115 (by kernel_rfl) (by kernel_rfl) (env.ty 90 _ rfl) rfl (by decide) enc_Report p0 p1 p2 h1 h2
theorem c_fog_Add (fuel : Nat) (p0 : (List Report)) (p1 : Report) {r : ((List Report) × Int)} (H : fog_Add fuel p0 p1 = some r) : Ctr Tryz.prog 51 [roL 9 enc_Report p0, .agg [.int .i64 (p1.Source), .int .i64 (p1.District), .int .i64 (p1.Night), .int .i64 (p1.From), .int .i64 (p1.To), .int .i64 (p1.Sight.Lo), .int .i64 (p1.Sight.Hi), .int .i64 (p1.Known), .int .i64 (p1.Until)]] (.tup [roL 9 enc_Report r.1, .int .i64 (r.2)]) := by
 unfold fog_Add at H
 refine Ctr.of_body (N := 37) Tryz.func51 (by kernel_rfl) (c := _) rfl Tryz.ntmps51 rfl (fun w0 h0 hval => ?_)
 refine W.rg env [0, 3] [3] ?_
 refine W.seq ?_
 refine W.seq ?_
 obtain ⟨y1, hy2, H⟩ := of_bindO H
 refine W.region env [] [⟨.int .i64 (y1), [], 0, []⟩] rfl rfl rfl .nil (.free (c_fog_Check p0 hy2) .nil) (At.keep (ts := [0, 3, 6]) (ids := [3]) rfl rfl ?_)
 refine At.thenC ?_
 refine W.rg env [0, 3, 6, 12] [3] ?_
 refine W.cond rfl (fun hb3 => ?_) (fun hb3 => ?_)
 · have H := of_true H hb3
   refine W.rg env [4, 5] [] ?_
   refine W.ret ?_
   refine At.rthen ?_
   cases H
   exact At.ret env.ty rfl rfl (fun q hq => by cases hq) (Sim.tupL (.cons (Sim.nil _ _) (.cons (.refl _) .nil))) hval
 · have H := of_false H hb3
   refine W.skip ?_
   refine At.thenC ?_
   refine W.seq ?_
   obtain ⟨y4, hy5, H⟩ := of_bindO H
   refine W.region env [] [⟨.tup [.int .i64 (y4.1), .bool (y4.2)], [], 0, []⟩] rfl rfl rfl .nil (.free (c_slices_BinarySearchFunc_Report fuel p0 p1 (fun x0 x1 => some (fog_compare x0 x1)) 114 [] [] (fun x0 x1 r h => by cases h; exact c_fog_compare x0 x1) hy5) .nil) (At.keep (ts := [0, 3, 7, 8]) (ids := [3]) rfl rfl ?_)
   refine At.thenC ?_
   refine W.seq ?_
   refine W.block ?_
   refine W.sr env [] [⟨.int .i64 ((fog_CheckReport p1)), [], 0, []⟩] [0, 3, 7, 20] [3] rfl rfl rfl (.cons (fun h => by rw [h]; rfl) .nil) (.free (c_fog_CheckReport p1) .nil) ?_
   refine W.cond rfl (fun hb6 => ?_) (fun hb6 => ?_)
   · have H := of_true H hb6
     refine W.rg env [4, 5] [] ?_
     refine W.ret ?_
     refine At.rinb ?_
     refine At.rthen ?_
     cases H
     exact At.ret env.ty rfl rfl (fun q hq => by cases hq) (Sim.tupL (.cons (Sim.nil _ _) (.cons (.refl _) .nil))) hval
   · have H := of_false H hb6
     refine W.rg env [0, 3, 7, 27] [3] ?_
     refine W.cond rfl (fun hb7 => ?_) (fun hb7 => ?_)
     · have H := of_true H hb7
       refine W.rg env [4, 5] [] ?_
       refine W.ret ?_
       refine At.rinb ?_
       refine At.rthen ?_
       cases H
       exact At.ret env.ty rfl rfl (fun q hq => by cases hq) (Sim.tupL (.cons (Sim.nil _ _) (.cons (.refl _) .nil))) hval
     · have H := of_false H hb7
       refine W.skip ?_
       refine At.inb ?_
       refine At.thenC ?_
       refine W.seq ?_
       obtain ⟨y8, hy9, H⟩ := of_bindO H
       obtain ⟨y10, hy11, H⟩ := of_bindO H
       refine W.region env [35] [⟨.buf 900 y8.length, [(900, bufL 90 9 enc_Report y8)], 33000, []⟩, ⟨.buf 37900 y10.length, [(35, bufL 90 9 enc_Report ([p1] : List Report)), (33900, .dead), (37900, bufL 90 9 enc_Report y10)], 0, [33900, 35]⟩] rfl rfl (by kernel_rfl) .nil (.free ((Ctr.ofO (co_slices_Clone_Report p0 hy9))) (.free (CtrO.sim (CtrO.ren (cl_slices_Insert_Report y8 y4.1 p1 hy11) [(700, 33900), (701, 35), (900, 37900)]) (.cons .qc (.cons (.refl _) (.cons .qc .nil))) (.cons (.refl _) (.cons (BSim.seg (Seg.lit (f := enc_Report) (sz := 9) ([p1] : List Report) rfl rfl (fun _ => rfl))) .nil))) .nil)) (At.keep (ts := [4, 5]) (ids := [37900]) rfl rfl ?_)
       refine At.thenC ?_
       refine W.ret ?_
       cases H
       exact At.ret env.ty rfl rfl (fun q hq => by cases hq; exact (by first | rfl | (simp; done) | omega | (simp; omega))) (.refl _) hval
theorem c_gasolierref05_SameReports (fuel : Nat) (p0 : (List Report)) (p1 : (List Report)) {r : Bool} (H : gasolierref05_SameReports fuel p0 p1 = some r) : Ctr Tryz.prog 52 [roL 9 enc_Report p0, roL 9 enc_Report p1] (.bool (r)) := by
 unfold gasolierref05_SameReports at H
 refine Ctr.of_body (N := 26) Tryz.func52 (by kernel_rfl) (c := _) rfl Tryz.ntmps52 rfl (fun w0 h0 hval => ?_)
 refine W.rg env [0, 1] [] ?_
 refine W.seq ?_
 refine W.rg env [0, 1, 10] [] ?_
 refine W.cond rfl (fun hb1 => ?_) (fun hb1 => ?_)
 · have H := of_true H hb1
   refine W.rg env [4] [] ?_
   refine W.ret ?_
   refine At.rthen ?_
   cases H
   exact At.ret env.ty rfl rfl (fun q hq => by cases hq) (.refl _) hval
 · have H := of_false H hb1
   refine W.skip ?_
   refine At.thenC ?_
   refine W.seq ?_
   refine W.rg env [0, 1, 5] [] ?_
   refine W.block ?_
   refine At.keep (ts := [0, 1, 5]) (ids := []) rfl rfl ?_
   refine W.loopGo H (fun (s2 : Int) => [(0, roL 9 enc_Report p0), (1, roL 9 enc_Report p1), (5, .int .i64 (s2))]) (fun (s2 : Int) => []) (.cons .q (.cons .q (.cons .qi .nil))) .nil (fun k2 s2 H K0 hK2 => ?_)
   refine W.seq ?_
   refine W.rg env [0, 1, 5, 14] [] ?_
   refine W.cond rfl (fun hb3 => ?_) (fun hb3 => ?_)
   · have H := of_true H hb3
     refine W.skip ?_
     refine At.thenC ?_
     refine W.seq ?_
     refine W.block ?_
     obtain ⟨hc4, H⟩ := of_must H
     obtain ⟨hc5, H⟩ := of_must H
     refine W.sr env [] [] [0, 1, 5, 25] [] rfl rfl (by first | rfl | kernel_rfl) (.cons hc4 (.cons hc5 .nil)) .nil ?_
     refine W.cond rfl (fun hb6 => ?_) (fun hb6 => ?_)
     · have H := of_true H hb6
       refine W.rg env [4] [] ?_
       refine W.ret ?_
       refine At.rinb ?_
       refine At.rthen ?_
       refine At.rthen ?_
       refine At.rinb ?_
       refine At.rthen ?_
       cases H
       exact At.ret env.ty rfl rfl (fun q hq => by cases hq) (.refl _) hval
     · have H := of_false H hb6
       refine W.skip ?_
       refine At.inb ?_
       refine At.thenC ?_
       obtain ⟨hc7, H⟩ := of_must H
       refine W.region env [] [] rfl rfl rfl (.cons hc7 .nil) .nil (At.keep (ts := [0, 1, 5]) (ids := []) rfl rfl ?_)
       refine At.thenK (At.keep (ts := [0, 1, 5]) (ids := []) rfl rfl ?_)
       exact At.conv (.cons .q (.cons .q (.cons .qi .nil))) .nil (hK2 (s2 + 1) H)
   · have H := of_false H hb3
     refine W.exit ?_
     refine At.xthen ?_
     refine At.xthen ?_
     refine At.xhere ?_
     refine At.thenC ?_
     refine W.rg env [4] [] ?_
     refine W.ret ?_
     cases H
     exact At.ret env.ty rfl rfl (fun q hq => by cases hq) (.refl _) hval
theorem c_gasolierlaw05_moment (p0 : Int) {r : Int} (H : gasolierlaw05_moment p0 = some r) : Ctr Tryz.prog 38 [.int .i64 (p0)] (.int .i64 (r)) := by
 unfold gasolierlaw05_moment at H
 refine Ctr.of_body (N := 6) Tryz.func38 (by kernel_rfl) (c := _) rfl Tryz.ntmps38 rfl (fun w0 h0 hval => ?_)
 refine W.rg env [0] [] ?_
 refine W.seq ?_
 obtain ⟨y1, hy2, H⟩ := of_bindO H
 obtain ⟨hc3, H⟩ := of_must H
 refine W.region env [] [⟨.int .i64 (y1), [], 0, []⟩] rfl rfl rfl (.cons hc3 .nil) (.free (c_gasolierref05_Mod p0 1440 hy2) .nil) (At.keep (ts := [2]) (ids := []) rfl rfl ?_)
 refine At.thenC ?_
 refine W.ret ?_
 cases H
 exact At.ret env.ty rfl rfl (fun q hq => by cases hq) (.refl _) hval
theorem c_fog_isMinute (p0 : Int) : Ctr Tryz.prog 147 [.int .i64 (p0)] (.bool ((fog_isMinute p0))) := by
 obtain ⟨r, H⟩ : ∃ r, fog_isMinute p0 = r := ⟨_, rfl⟩
 rw [H]
 unfold fog_isMinute at H
 refine Ctr.of_body (N := 5) Tryz.func147 (by kernel_rfl) (c := _) rfl Tryz.ntmps147 rfl (fun w0 h0 hval => ?_)
 refine W.rg env [0] [] ?_
 refine W.sr env [] [⟨.bool ((fog_within p0 0 1439)), [], 0, []⟩] [2] [] rfl rfl rfl .nil (.free (c_fog_within p0 0 1439) .nil) ?_
 refine W.ret ?_
 cases H
 exact At.ret env.ty rfl rfl (fun q hq => by cases hq) (.refl _) hval
theorem c_slices_IndexFunc_Report (p0 : (List Report)) (p1 : Report → Option Bool) (p1_g : Nat) (p1_a p1_b : List AV) (p1_h : ∀ x0 r, p1 x0 = some r → Ctr Tryz.prog p1_g (p1_a ++ ([.agg [.int .i64 (x0.Source), .int .i64 (x0.District), .int .i64 (x0.Night), .int .i64 (x0.From), .int .i64 (x0.To), .int .i64 (x0.Sight.Lo), .int .i64 (x0.Sight.Hi), .int .i64 (x0.Known), .int .i64 (x0.Until)]] ++ p1_b)) (.bool (r))) {r : Int} (H : slices_IndexFunc_Report p0 p1 = some r) : Ctr Tryz.prog 64 [roL 9 enc_Report p0, .clo (.func p1_g) p1_a p1_b] (.int .i64 (r)) := by
 unfold slices_IndexFunc_Report at H
 refine Ctr.of_body (N := 19) Tryz.func64 (by kernel_rfl) (c := _) rfl Tryz.ntmps64 rfl (fun w0 h0 hval => ?_)
 refine W.rg env [0, 1] [] ?_
 refine W.seq ?_
 refine W.rg env [0, 1, 7, 8] [] ?_
 refine W.block ?_
 refine At.keep (ts := [0, 1, 7, 8]) (ids := []) rfl rfl ?_
 refine W.len (t := 0) rfl (fun (hn1 : p0.length ≤ maxLen) => ?_)
 refine W.rangeGo H (fun i1 (s1 : Unit) => [(0, roL 9 enc_Report p0), (1, .clo (.func p1_g) p1_a p1_b), (7, .int .i64 (((p0.length : Nat) : Int))), (8, .int .i64 ((i1 : Int)))]) (fun i1 (s1 : Unit) => []) (.cons .q (.cons .q (.cons .qi (.cons .qi .nil)))) .nil (fun k1 i1 s1 hle1 H1 H2 K0 hK1 => ?_)
 refine W.rg env [0, 1, 7, 8, 9] [] ?_
 refine W.seq ?_
 refine W.cond rfl (fun hb2 => ?_) (fun hb2 => ?_)
 · have hi1 : i1 < p0.length := by have := of_decide_eq_true hb2; omega
   have H := H1 hi1
   refine W.skip ?_
   refine At.thenC ?_
   refine W.seq ?_
   refine W.block ?_
   refine W.rg env [0, 1, 5, 7, 8] [] ?_
   refine W.seq ?_
   obtain ⟨y3, hy4, H⟩ := of_bindO H
   refine W.region env [] [⟨.bool (y3), [], 0, []⟩] rfl rfl rfl (.cons (⟨by omega, by omega⟩ : 0 ≤ (i1 : Int) ∧ (i1 : Int) < ((p0.length : Nat) : Int)) .nil) (.free (p1_h (p0.getD i1 default) _ hy4) .nil) (At.keep (ts := [0, 1, 5, 7, 8, 16]) (ids := []) rfl rfl ?_)
   refine At.thenC ?_
   refine W.cond rfl (fun hb5 => ?_) (fun hb5 => ?_)
   · have H := of_true H hb5
     refine W.rg env [4] [] ?_
     refine W.ret ?_
     refine At.rinb ?_
     refine At.rthen ?_
     refine At.rthen ?_
     refine At.rinb ?_
     refine At.rthen ?_
     cases H
     exact At.ret env.ty rfl rfl (fun q hq => by cases hq) (.refl _) hval
   · have H := of_false H hb5
     refine W.skip ?_
     refine At.inb ?_
     refine At.thenC ?_
     refine W.region env [] [] rfl rfl rfl (.cons (by unfold inI; have := hn1; (try unfold maxLen at this); omega) .nil) .nil (At.keep (ts := [0, 1, 7, 8]) (ids := []) rfl rfl ?_)
     refine At.thenK (At.keep (ts := [0, 1, 7, 8]) (ids := []) rfl rfl ?_)
     exact At.conv (.cons .q (.cons .q (.cons .qi (.cons .qi .nil)))) .nil (hK1 hi1 () H)
 · have H := H2 (by have := of_decide_eq_false hb2; omega)
   refine W.exit ?_
   refine At.xthen ?_
   refine At.xthen ?_
   refine At.xhere ?_
   refine At.thenC ?_
   refine W.rg env [4] [] ?_
   refine W.ret ?_
   cases H
   exact At.ret env.ty rfl rfl (fun q hq => by cases hq) (.refl _) hval
theorem co_slices_DeleteFunc_Report (fuel : Nat) (p0 : (List Report)) (p1 : Report → Option Bool) (p1_g : Nat) (p1_a p1_b : List AV) (p1_h : ∀ x0 r, p1 x0 = some r → Ctr Tryz.prog p1_g (p1_a ++ ([.agg [.int .i64 (x0.Source), .int .i64 (x0.District), .int .i64 (x0.Night), .int .i64 (x0.From), .int .i64 (x0.To), .int .i64 (x0.Sight.Lo), .int .i64 (x0.Sight.Hi), .int .i64 (x0.Known), .int .i64 (x0.Until)]] ++ p1_b)) (.bool (r))) {r : (List Report)} (H : slices_DeleteFunc_Report fuel p0 p1 = some r) : CtrO Tryz.prog 129 [.buf 700 (p0).length, .clo (.func p1_g) p1_a p1_b] [(700, bufL 90 9 enc_Report p0)] (.buf 900 r.length) [(900, bufL 90 9 enc_Report r)] := by
 unfold slices_DeleteFunc_Report at H
 refine CtrO.of_body (N := 42) Tryz.func129 (by kernel_rfl) (c := _) rfl Tryz.ntmps129 rfl (fun w0 h0 ρb hval hdom => ?_)
 refine W.rg env [0, 1] [700] ?_
 refine W.seq ?_
 obtain ⟨y1, hy2, H⟩ := of_bindO H
 refine W.region env [] [⟨.int .i64 (y1), [], 0, []⟩] rfl rfl rfl (.cons (by first | rfl | (simp; done) | omega | (simp; omega)) .nil) (.free (c_slices_IndexFunc_Report p0 p1 p1_g p1_a p1_b p1_h hy2) .nil) (At.keep (ts := [0, 1, 5]) (ids := [700]) rfl rfl ?_)
 refine At.thenC ?_
 refine W.seq ?_
 refine W.rg env [0, 1, 5, 12] [700] ?_
 refine W.cond rfl (fun hb3 => ?_) (fun hb3 => ?_)
 · have H := of_true H hb3
   refine W.rg env [4] [700] ?_
   refine W.ret ?_
   refine At.rthen ?_
   cases H
   exact At.retK env.ty [700] 200 rfl rfl rfl rfl (.cons (.refl _) .nil) (.of_eq (by refine bufEq ?_; first | (simp [copyAt]; done) | omega | (simp [copyAt]; omega) | rfl)) hval hdom rfl
 · have H := of_false H hb3
   refine W.skip ?_
   refine At.thenC ?_
   refine W.seq ?_
   obtain ⟨hc4, H⟩ := of_must H
   refine W.sr env [] [] [0, 1, 5, 6] [700] rfl rfl rfl (.cons hc4 .nil) .nil ?_
   refine W.block ?_
   refine At.keep (ts := [0, 1, 5, 6]) (ids := [700]) rfl rfl ?_
   refine W.loopGo H (fun (s5 : Int × Int × (List Report)) => [(0, .buf 700 (s5.2.2).length), (1, .clo (.func p1_g) p1_a p1_b), (5, .int .i64 (s5.1)), (6, .int .i64 (s5.2.1))]) (fun (s5 : Int × Int × (List Report)) => [(700, bufL 90 9 enc_Report s5.2.2)]) (.cons .qb (.cons .q (.cons .qi (.cons .qi .nil)))) (.cons .q .nil) (fun k5 s5 H K0 hK5 => ?_)
   refine W.seq ?_
   refine W.sr env [] [] [0, 1, 5, 6, 19] [700] rfl rfl rfl (.cons (by first | rfl | (simp; done) | omega | (simp; omega)) .nil) .nil ?_
   refine W.cond rfl (fun hb6 => ?_) (fun hb6 => ?_)
   · have H := of_true H hb6
     refine W.skip ?_
     refine At.thenC ?_
     refine W.seq ?_
     refine W.block ?_
     obtain ⟨hc7, H⟩ := of_must H
     refine W.sr env [] [] [0, 1, 5, 6, 7] [7, 700] rfl rfl rfl (.cons (⟨by first | rfl | (simp; done) | omega | (simp; omega), hc7⟩) (.cons (⟨by first | rfl | (simp; done) | omega | (simp; omega), (by have := hc7; first | omega | (simp only [List.length_set]; omega) | (simp only [Int.toNat_natCast] at *; omega) | (simp at this ⊢; omega))⟩) .nil)) .nil ?_
     refine W.seq ?_
     obtain ⟨y8, hy9, H⟩ := of_bindO H
     refine W.region env [] [⟨.bool (y8), [], 0, []⟩] rfl rfl rfl .nil (.free (p1_h (s5.2.2.getD (s5.2.1).toNat default) _ hy9) .nil) (At.keep (ts := [0, 1, 5, 6, 7, 29]) (ids := [7, 700]) rfl rfl ?_)
     refine At.thenC ?_
     refine W.cond rfl (fun hb10 => ?_) (fun hb10 => ?_)
     · have H := of_true H hb10
       refine W.seq ?_
       obtain ⟨hc11, H⟩ := of_must H
       refine W.region env [] [] rfl rfl rfl (.cons (⟨by first | rfl | (simp; done) | omega | (simp; omega), hc11⟩) (.cons (⟨by first | rfl | (simp; done) | omega | (simp; omega), (by have := hc11; first | omega | (simp only [List.length_set]; omega) | (simp only [Int.toNat_natCast] at *; omega) | (simp at this ⊢; omega))⟩) .nil)) .nil (At.keep (ts := [0, 1, 5, 6]) (ids := [700]) rfl rfl ?_)
       refine At.convM (.cons (y := bufL 90 9 enc_Report (s5.2.2.set (s5.1).toNat (s5.2.2.getD (s5.2.1).toNat default))) (BSim.seg (Seg.set (Seg.refl enc_Report _) (s5.2.2.getD (s5.2.1).toNat default) rfl)) .nil) ?_
       refine At.thenC ?_
       obtain ⟨hc12, H⟩ := of_must H
       refine W.region env [] [] rfl rfl rfl (.cons hc12 .nil) .nil (At.keep (ts := [0, 1, 5, 6]) (ids := [700]) rfl rfl ?_)
       refine At.inb ?_
       refine At.thenC ?_
       obtain ⟨hc13, H⟩ := of_must H
       refine W.region env [] [] rfl rfl rfl (.cons hc13 .nil) .nil (At.keep (ts := [0, 1, 5, 6]) (ids := [700]) rfl rfl ?_)
       refine At.thenK (At.keep (ts := [0, 1, 5, 6]) (ids := [700]) rfl rfl ?_)
       exact At.conv (.cons .qb (.cons .q (.cons .qi (.cons .qi .nil)))) (.cons .q .nil) (hK5 ((s5.1 + 1), (s5.2.1 + 1), (s5.2.2.set (s5.1).toNat (s5.2.2.getD (s5.2.1).toNat default))) H)
     · have H := of_false H hb10
       refine W.skip ?_
       refine At.inb ?_
       refine At.thenC ?_
       obtain ⟨hc14, H⟩ := of_must H
       refine W.region env [] [] rfl rfl rfl (.cons hc14 .nil) .nil (At.keep (ts := [0, 1, 5, 6]) (ids := [700]) rfl rfl ?_)
       refine At.thenK (At.keep (ts := [0, 1, 5, 6]) (ids := [700]) rfl rfl ?_)
       exact At.conv (.cons .qb (.cons .q (.cons .qi (.cons .qi .nil)))) (.cons .q .nil) (hK5 (s5.1, (s5.2.1 + 1), s5.2.2) H)
   · have H := of_false H hb6
     refine W.exit ?_
     refine At.xthen ?_
     refine At.xthen ?_
     refine At.xhere ?_
     refine At.thenC ?_
     refine W.seq ?_
     obtain ⟨hc15, H⟩ := of_must H
     refine W.region env [] [] rfl rfl rfl (.cons (⟨by first | rfl | (simp; done) | omega | (simp; omega), hc15⟩) (.cons (⟨by first | rfl | (simp; done) | omega | (simp; omega), (by have := hc15; omega), (by have := hc15; omega)⟩) .nil)) .nil (At.keep (ts := [0, 5]) (ids := [700]) rfl rfl ?_)
     refine At.convM (.cons (y := bufL 90 9 enc_Report (copyAt s5.2.2 ((s5.1).toNat) (s5.2.2.length - (s5.1).toNat) (fun _ => (⟨0, 0, 0, 0, 0, (⟨0, 0⟩ : Range), 0, 0⟩ : Report)))) (BSim.seg (Seg.cleared (a := (s5.1).toNat) (b := s5.2.2.length) (Seg.refl enc_Report _) (⟨0, 0, 0, 0, 0, (⟨0, 0⟩ : Range), 0, 0⟩ : Report) rfl (by have := hc15; omega))) .nil) ?_
     refine At.thenC ?_
     obtain ⟨hc16, H⟩ := of_must H
     refine W.sr env [] [] [4] [700] rfl rfl rfl (.cons (⟨by first | rfl | (simp [length_copyAt]; done) | (simp [length_copyAt]; omega), hc16⟩) .nil) .nil ?_
     refine W.ret ?_
     cases H
     refine At.shrink 4 700 850 (K := []) (ts := []) rfl rfl (by first | rfl | (simp; done) | omega | (simp; omega)) (by have := hc16; omega) rfl rfl rfl rfl ?_
     refine At.convM (.cons (y := bufL 90 9 enc_Report ((copyAt s5.2.2 ((s5.1).toNat) (s5.2.2.length - (s5.1).toNat) (fun _ => (⟨0, 0, 0, 0, 0, (⟨0, 0⟩ : Range), 0, 0⟩ : Report))).take ((s5.1).toNat))) (BSim.seg (Seg.first (Seg.refl enc_Report _) (by have := hc16; omega))) .nil) ?_
     exact At.retK env.ty [850] 50 rfl rfl rfl rfl (.cons (.refl _) .nil) (.of_eq (by refine bufEq ?_; first | (simp [copyAt]; done) | omega | (simp [copyAt]; omega) | rfl)) hval hdom rfl
theorem c_fog_counts (p0 : Report) (p1 : Int) : Ctr Tryz.prog 117 [.agg [.int .i64 (p0.Source), .int .i64 (p0.District), .int .i64 (p0.Night), .int .i64 (p0.From), .int .i64 (p0.To), .int .i64 (p0.Sight.Lo), .int .i64 (p0.Sight.Hi), .int .i64 (p0.Known), .int .i64 (p0.Until)], .int .i64 (p1)] (.bool ((fog_counts p0 p1))) := by
 obtain ⟨r, H⟩ : ∃ r, fog_counts p0 p1 = r := ⟨_, rfl⟩
 rw [H]
 unfold fog_counts at H
 refine Ctr.of_body (N := 20) Tryz.func117 (by kernel_rfl) (c := _) rfl Tryz.ntmps117 rfl (fun w0 h0 hval => ?_)
 refine W.rg env [1, 2] [2] ?_
 refine W.sr env [] [] [4] [] rfl rfl rfl (.cons (fun h => h) (.cons (fun h => h) (.cons (fun h => h) (.cons (fun h => h) (.cons (fun h => h) (.cons (fun h => h) (.cons (fun h => h) (.cons (fun hW h => by revert hW h; first | (simp +contextual; done) | grind) (.cons (fun h => h) .nil))))))))) .nil ?_
 refine W.ret ?_
 cases H
 exact At.ret env.ty rfl rfl (fun q hq => by cases hq) (.refl _) hval
theorem c_fog_see_1 (p0 : Report) (c0 : Int) (c1 : Int) (c2 : Int) : Ctr Tryz.prog 130 [.agg [.int .i64 (p0.Source), .int .i64 (p0.District), .int .i64 (p0.Night), .int .i64 (p0.From), .int .i64 (p0.To), .int .i64 (p0.Sight.Lo), .int .i64 (p0.Sight.Hi), .int .i64 (p0.Known), .int .i64 (p0.Until)], .rp [.int .i64 (c0)], .rp [.int .i64 (c1)], .rp [.int .i64 (c2)]] (.bool ((fog_see_1 p0 c0 c1 c2))) := by
 obtain ⟨r, H⟩ : ∃ r, fog_see_1 p0 c0 c1 c2 = r := ⟨_, rfl⟩
 rw [H]
 unfold fog_see_1 at H
 refine Ctr.of_body (N := 22) Tryz.func130 (by kernel_rfl) (c := _) rfl Tryz.ntmps130 rfl (fun w0 h0 hval => ?_)
 refine W.rg env [1, 2, 3, 4] [4] ?_
 refine W.sr env [] [⟨.bool ((fog_counts p0 c2)), [], 0, []⟩] [5] [] rfl rfl rfl (.cons (fun h => h) (.cons (fun h => h) (.cons (fun h => h) (.cons (fun h => by rw [h]; rfl) (.cons (fun h => h) (.cons (fun h => h) (.cons (fun h => h) (.cons (fun h => by rw [h]; rfl) .nil)))))))) (.on (fun hW => c_fog_counts p0 c2) .nil) ?_
 refine W.ret ?_
 cases H
 exact At.ret env.ty rfl rfl (fun q hq => by cases hq) (.refl _) hval
theorem c_fog_see (fuel : Nat) (p0 : (List Report)) (p1 : Int) (p2 : Int) (p3 : Int) {r : (List Report)} (H : fog_see fuel p0 p1 p2 p3 = some r) : Ctr Tryz.prog 69 [roL 9 enc_Report p0, .int .i64 (p1), .int .i64 (p2), .int .i64 (p3)] (roL 9 enc_Report r) := by
 unfold fog_see at H
 refine Ctr.of_body (N := 13) Tryz.func69 (by kernel_rfl) (c := _) rfl Tryz.ntmps69 rfl (fun w0 h0 hval => ?_)
 refine W.rg env [0, 5, 6, 7] [5, 6, 7] ?_
 refine W.seq ?_
 refine At.freezeC 5 (K := [6, 7]) (ts := [0, 5, 6, 7]) rfl rfl rfl rfl rfl (fun _ h => h) ?_
 refine At.freezeC 6 (K := [7]) (ts := [0, 5, 6, 7]) rfl rfl rfl rfl rfl (fun _ h => h) ?_
 refine At.freezeC 7 (K := []) (ts := [0, 5, 6, 7]) rfl rfl rfl rfl rfl (fun _ h => h) ?_
 obtain ⟨y1, hy2, H⟩ := of_bindO H
 obtain ⟨y3, hy4, H⟩ := of_bindO H
 refine W.region env [] [⟨.buf 900 y1.length, [(900, bufL 90 9 enc_Report y1)], 11000, []⟩, ⟨.buf 900 y3.length, [(11900, .dead), (900, bufL 90 9 enc_Report y3)], 13000, []⟩] rfl rfl (by kernel_rfl) .nil (.free ((Ctr.ofO (co_slices_Clone_Report p0 hy2))) (.free (CtrO.sim (CtrO.at (co_slices_DeleteFunc_Report fuel y1 (fun x0 => some (fog_see_1 x0 p1 p2 p3)) 130 [] ([.rp [.int .i64 (p1)], .rp [.int .i64 (p2)], .rp [.int .i64 (p3)]]) (fun x0 r h => by cases h; exact c_fog_see_1 x0 p1 p2 p3) hy4) rfl 11900) (.cons .qc (.cons (Sim.fnClo rfl) .nil)) (.cons (.refl _) .nil)) .nil)) (At.keep (ts := [8]) (ids := [13900]) rfl rfl ?_)
 refine At.thenC ?_
 refine W.ret ?_
 cases H
 exact At.ret env.ty rfl rfl (fun q hq => by cases hq; exact (by first | rfl | (simp; done) | omega | (simp; omega))) (.refl _) hval
theorem c_fog_query__view (fuel : Nat) (p0 : fog_query) (p1 : (List Report)) {r : ((List Report) × Int)} (H : fog_query__view fuel p0 p1 = some r) : Ctr Tryz.prog 137 [.agg [.int .i64 (p0.district), .int .i64 (p0.night), .int .i64 (p0.moment), .int .i64 (p0.minute), .int .i64 (p0.time.Lo), .int .i64 (p0.time.Hi), .int .i64 (p0.limit)], roL 9 enc_Report p1] (.tup [roL 9 enc_Report r.1, .int .i64 (r.2)]) := by
 unfold fog_query__view at H
 refine Ctr.of_body (N := 52) Tryz.func137 (by kernel_rfl) (c := _) rfl Tryz.ntmps137 rfl (fun w0 h0 hval => ?_)
 refine W.rg env [1, 2] [2] ?_
 refine W.seq ?_
 refine W.block ?_
 refine W.seq ?_
 obtain ⟨y1, hy2, H⟩ := of_bindO H
 refine W.region env [] [⟨.int .i64 (y1), [], 0, []⟩] rfl rfl rfl .nil (.free (c_fog_Check p1 hy2) .nil) (At.keep (ts := [1, 2, 6]) (ids := [2]) rfl rfl ?_)
 refine At.thenC ?_
 refine W.cond rfl (fun hb3 => ?_) (fun hb3 => ?_)
 · have H := of_true H hb3
   refine W.rg env [4, 5] [] ?_
   refine W.ret ?_
   refine At.rinb ?_
   refine At.rthen ?_
   cases H
   exact At.ret env.ty rfl rfl (fun q hq => by cases hq) (Sim.tupL (.cons (Sim.nil _ _) (.cons (.refl _) .nil))) hval
 · have H := of_false H hb3
   refine W.sr env [] [⟨.bool ((fog_isDistrict p0.district)), [], 0, []⟩, ⟨.bool ((fog_isMinute p0.minute)), [], 0, []⟩, ⟨.bool ((fog_isRange p0.time 1439)), [], 0, []⟩, ⟨.bool ((fog_within p0.limit 1 5000)), [], 0, []⟩] [1, 2, 10] [2] rfl rfl rfl (.cons (fun h => h) (.cons (fun h => h) (.cons (fun h => h) (.cons (fun h => by rw [h]; rfl) (.cons (fun h => h) (.cons (fun h => h) (.cons (fun h => h) (.cons (fun h => by rw [h]; rfl) (.cons (fun h => h) (.cons (fun h => h) (.cons (fun h => h) (.cons (fun h => by rw [h]; rfl) .nil)))))))))))) (.free (c_fog_isDistrict p0.district) (.on (fun hW => c_fog_isMinute p0.minute) (.on (fun hW => c_fog_isRange p0.time 1439) (.on (fun hW => c_fog_within p0.limit 1 5000) .nil)))) ?_
   refine W.cond rfl (fun hb4 => ?_) (fun hb4 => ?_)
   · have H := of_true H hb4
     refine W.rg env [4, 5] [] ?_
     refine W.ret ?_
     refine At.rinb ?_
     refine At.rthen ?_
     cases H
     exact At.ret env.ty rfl rfl (fun q hq => by cases hq) (Sim.tupL (.cons (Sim.nil _ _) (.cons (.refl _) .nil))) hval
   · have H := of_false H hb4
     refine W.sr env [] [⟨.bool ((fog_isNight p0.night)), [], 0, []⟩, ⟨.bool ((fog_isMoment p0.moment)), [], 0, []⟩] [1, 2, 33] [2] rfl rfl rfl (.cons (fun h => h) (.cons (fun h => h) (.cons (fun h => h) (.cons (fun h => by rw [h]; rfl) .nil)))) (.free (c_fog_isNight p0.night) (.on (fun hW => c_fog_isMoment p0.moment) .nil)) ?_
     refine W.cond rfl (fun hb5 => ?_) (fun hb5 => ?_)
     · have H := of_true H hb5
       refine W.rg env [4, 5] [] ?_
       refine W.ret ?_
       refine At.rinb ?_
       refine At.rthen ?_
       cases H
       exact At.ret env.ty rfl rfl (fun q hq => by cases hq) (Sim.tupL (.cons (Sim.nil _ _) (.cons (.refl _) .nil))) hval
     · have H := of_false H hb5
       refine W.skip ?_
       refine At.inb ?_
       refine At.thenC ?_
       refine W.seq ?_
       obtain ⟨y6, hy7, H⟩ := of_bindO H
       refine W.region env [] [⟨roL 9 enc_Report y6, [], 0, []⟩] rfl rfl rfl .nil (.free (c_fog_see fuel p1 p0.district p0.night p0.moment hy7) .nil) (At.keep (ts := [4, 5]) (ids := []) rfl rfl ?_)
       refine At.thenC ?_
       refine W.ret ?_
       cases H
       exact At.ret env.ty rfl rfl (fun q hq => by cases hq) (.refl _) hval
theorem c_fog_clash (p0 : Report) (p1 : Report) : Ctr Tryz.prog 131 [.agg [.int .i64 (p0.Source), .int .i64 (p0.District), .int .i64 (p0.Night), .int .i64 (p0.From), .int .i64 (p0.To), .int .i64 (p0.Sight.Lo), .int .i64 (p0.Sight.Hi), .int .i64 (p0.Known), .int .i64 (p0.Until)], .agg [.int .i64 (p1.Source), .int .i64 (p1.District), .int .i64 (p1.Night), .int .i64 (p1.From), .int .i64 (p1.To), .int .i64 (p1.Sight.Lo), .int .i64 (p1.Sight.Hi), .int .i64 (p1.Known), .int .i64 (p1.Until)]] (.bool ((fog_clash p0 p1))) := by
 obtain ⟨r, H⟩ : ∃ r, fog_clash p0 p1 = r := ⟨_, rfl⟩
 rw [H]
 unfold fog_clash at H
 refine Ctr.of_body (N := 37) Tryz.func131 (by kernel_rfl) (c := _) rfl Tryz.ntmps131 rfl (fun w0 h0 hval => ?_)
 refine W.rg env [2, 3] [2, 3] ?_
 refine W.sr env [] [] [2, 3, 5] [2, 3] rfl rfl rfl (.cons (fun h => h) (.cons (fun h => h) (.cons (fun h => h) (.cons (fun h => h) (.cons (fun h => h) .nil))))) .nil ?_
 refine W.sr env [] [] [4] [] rfl rfl rfl (.cons (fun h => h) (.cons (fun h => h) (.cons (fun h => h) (.cons (fun h => h) (.cons (fun h => h) (.cons (fun h => h) (.cons (fun h => h) (.cons (fun h => h) (.cons (fun h => h) (.cons (fun h => h) (.cons (fun h => h) (.cons (fun h => h) (.cons (fun h => h) (.cons (fun h => h) (.cons (fun hW h => by revert hW h; first | (simp +contextual; done) | grind) (.cons (fun h => h) .nil)))))))))))))))) .nil ?_
 refine W.ret ?_
 cases H
 exact At.ret env.ty rfl rfl (fun q hq => by cases hq) (.refl _) hval
theorem c_fog_view__pair (p0 : (List Report)) {r : ((List Int) × Bool)} (H : fog_view__pair p0 = some r) : Ctr Tryz.prog 70 [roL 9 enc_Report p0] (.tup [roL 1 enc_Int r.1, .bool (r.2)]) := by
 unfold fog_view__pair at H
 refine Ctr.of_body (N := 34) Tryz.func70 (by kernel_rfl) (c := _) rfl Tryz.ntmps70 rfl (fun w0 h0 hval => ?_)
 refine W.rg env [0] [] ?_
 refine W.seq ?_
 refine W.rg env [0, 8, 9, 10] [] ?_
 refine W.block ?_
 refine At.keep (ts := [0, 8, 9, 10]) (ids := []) rfl rfl ?_
 refine W.len (t := 8) rfl (fun (hn1 : p0.length ≤ maxLen) => ?_)
 refine W.rangeGo H (fun i1 (s1 : Unit) => [(0, roL 9 enc_Report p0), (8, roL 9 enc_Report p0), (9, .int .i64 (((p0.length : Nat) : Int))), (10, .int .i64 ((i1 : Int)))]) (fun i1 (s1 : Unit) => []) (.cons .q (.cons .q (.cons .qi (.cons .qi .nil)))) .nil (fun k1 i1 s1 hle1 H1 H2 K0 hK1 => ?_)
 refine W.rg env [0, 8, 9, 10, 11] [] ?_
 refine W.seq ?_
 refine W.cond rfl (fun hb2 => ?_) (fun hb2 => ?_)
 · have hi1 : i1 < p0.length := by have := of_decide_eq_true hb2; omega
   have H := H1 hi1
   refine W.skip ?_
   refine At.thenC ?_
   refine W.seq ?_
   refine W.block ?_
   refine W.sr env [] [] [0, 4, 5, 8, 9, 10] [5] rfl rfl rfl (.cons (⟨by omega, by omega⟩ : 0 ≤ (i1 : Int) ∧ (i1 : Int) < ((p0.length : Nat) : Int)) .nil) .nil ?_
   refine W.seq ?_
   obtain ⟨hc3, H⟩ := of_must H
   refine W.region env [] [] rfl rfl rfl (.cons (by unfold inI; have := hn1; (try unfold maxLen at this); omega) (.cons hc3 .nil)) .nil (At.keep (ts := [0, 5, 8, 9, 10, 18, 19, 20]) (ids := [5]) rfl rfl ?_)
   refine At.slot (t := 18) (v := roL 9 enc_Report (p0.drop (((i1 : Int) + 1)).toNat)) (Sim.seg (Seg.drop enc_Report p0 ((((i1 : Int) + 1)).toNat))) ?_
   refine At.thenC ?_
   refine W.block ?_
   refine At.keep (ts := [0, 5, 8, 9, 10, 18, 19, 20]) (ids := [5]) rfl rfl ?_
   refine W.len (t := 18) rfl (fun (hn4 : (p0.drop (((i1 : Int) + 1)).toNat).length ≤ maxLen) => ?_)
   refine W.rangeGo H (fun i4 (s4 : Unit) => [(0, roL 9 enc_Report p0), (5, .lp 5 0), (8, roL 9 enc_Report p0), (9, .int .i64 (((p0.length : Nat) : Int))), (10, .int .i64 ((i1 : Int))), (18, roL 9 enc_Report (p0.drop (((i1 : Int) + 1)).toNat)), (19, .int .i64 ((((p0.drop (((i1 : Int) + 1)).toNat).length : Nat) : Int))), (20, .int .i64 ((i4 : Int)))]) (fun i4 (s4 : Unit) => [(5, .cells [.int .i64 ((p0.getD i1 default).Source), .int .i64 ((p0.getD i1 default).District), .int .i64 ((p0.getD i1 default).Night), .int .i64 ((p0.getD i1 default).From), .int .i64 ((p0.getD i1 default).To), .int .i64 ((p0.getD i1 default).Sight.Lo), .int .i64 ((p0.getD i1 default).Sight.Hi), .int .i64 ((p0.getD i1 default).Known), .int .i64 ((p0.getD i1 default).Until)])]) (.cons .q (.cons .q (.cons .q (.cons .qi (.cons .qi (.cons .q (.cons .qi (.cons .qi .nil)))))))) (.cons .q .nil) (fun k4 i4 s4 hle4 H1 H2 K0 hK4 => ?_)
   refine W.rg env [0, 5, 8, 9, 10, 18, 19, 20, 21] [5] ?_
   refine W.seq ?_
   refine W.cond rfl (fun hb5 => ?_) (fun hb5 => ?_)
   · have hi4 : i4 < (p0.drop (((i1 : Int) + 1)).toNat).length := by have := of_decide_eq_true hb5; omega
     have H := H1 hi4
     refine W.skip ?_
     refine At.thenC ?_
     refine W.seq ?_
     refine W.block ?_
     refine W.sr env [] [] [0, 5, 7, 8, 9, 10, 18, 19, 20] [5, 7] rfl rfl rfl (.cons (⟨by omega, by omega⟩ : 0 ≤ (i4 : Int) ∧ (i4 : Int) < (((p0.drop (((i1 : Int) + 1)).toNat).length : Nat) : Int)) .nil) .nil ?_
     refine W.sr env [] [⟨.bool ((fog_clash (p0.getD i1 default) ((p0.drop (((i1 : Int) + 1)).toNat).getD i4 default))), [], 0, []⟩] [0, 5, 7, 8, 9, 10, 18, 19, 20, 26] [5, 7] rfl rfl rfl .nil (.free (c_fog_clash (p0.getD i1 default) ((p0.drop (((i1 : Int) + 1)).toNat).getD i4 default)) .nil) ?_
     refine W.cond rfl (fun hb6 => ?_) (fun hb6 => ?_)
     · have H := of_true H hb6
       refine W.seq ?_
       refine W.region env [] [] rfl rfl rfl .nil .nil (At.keep (ts := [2, 3]) (ids := []) rfl rfl ?_)
       refine At.slot (t := 2) (v := roL 1 enc_Int ([(p0.getD i1 default).Source, ((p0.drop (((i1 : Int) + 1)).toNat).getD i4 default).Source] : List Int)) (Sim.lit (f := enc_Int) ([(p0.getD i1 default).Source, ((p0.drop (((i1 : Int) + 1)).toNat).getD i4 default).Source] : List Int) rfl rfl (fun _ => rfl)) ?_
       refine At.thenC ?_
       refine W.ret ?_
       refine At.rinb ?_
       refine At.rthen ?_
       refine At.rthen ?_
       refine At.rinb ?_
       refine At.rinb ?_
       refine At.rthen ?_
       refine At.rthen ?_
       refine At.rinb ?_
       refine At.rthen ?_
       cases H
       exact At.ret env.ty rfl rfl (fun q hq => by cases hq) (.refl _) hval
     · have H := of_false H hb6
       refine W.skip ?_
       refine At.inb ?_
       refine At.thenC ?_
       refine W.region env [] [] rfl rfl rfl (.cons (by unfold inI; have := hn4; (try unfold maxLen at this); omega) .nil) .nil (At.keep (ts := [0, 5, 8, 9, 10, 18, 19, 20]) (ids := [5]) rfl rfl ?_)
       refine At.thenK (At.keep (ts := [0, 5, 8, 9, 10, 18, 19, 20]) (ids := [5]) rfl rfl ?_)
       exact At.conv (.cons .q (.cons .q (.cons .q (.cons .qi (.cons .qi (.cons .q (.cons .qi (.cons .qi .nil)))))))) (.cons .q .nil) (hK4 hi4 () H)
   · have H := H2 (by have := of_decide_eq_false hb5; omega)
     refine W.exit ?_
     refine At.xthen ?_
     refine At.xthen ?_
     refine At.xhere ?_
     refine At.inb ?_
     refine At.thenC ?_
     refine W.region env [] [] rfl rfl rfl (.cons (by unfold inI; have := hn1; (try unfold maxLen at this); omega) .nil) .nil (At.keep (ts := [0, 8, 9, 10]) (ids := []) rfl rfl ?_)
     refine At.thenK (At.keep (ts := [0, 8, 9, 10]) (ids := []) rfl rfl ?_)
     exact At.conv (.cons .q (.cons .q (.cons .qi (.cons .qi .nil)))) .nil (hK1 hi1 () H)
 · have H := H2 (by have := of_decide_eq_false hb2; omega)
   refine W.exit ?_
   refine At.xthen ?_
   refine At.xthen ?_
   refine At.xhere ?_
   refine At.thenC ?_
   refine W.rg env [2, 3] [] ?_
   refine W.ret ?_
   cases H
   exact At.ret env.ty rfl rfl (fun q hq => by cases hq) (Sim.tupL (.cons (Sim.nil _ _) (.cons (.refl _) .nil))) hval
theorem c_fog_query__clear (fuel : Nat) (p0 : fog_query) (p1 : (List Report)) {r : ((List Report) × Int)} (H : fog_query__clear fuel p0 p1 = some r) : Ctr Tryz.prog 79 [.agg [.int .i64 (p0.district), .int .i64 (p0.night), .int .i64 (p0.moment), .int .i64 (p0.minute), .int .i64 (p0.time.Lo), .int .i64 (p0.time.Hi), .int .i64 (p0.limit)], roL 9 enc_Report p1] (.tup [roL 9 enc_Report r.1, .int .i64 (r.2)]) := by
 unfold fog_query__clear at H
 refine Ctr.of_body (N := 26) Tryz.func79 (by kernel_rfl) (c := _) rfl Tryz.ntmps79 rfl (fun w0 h0 hval => ?_)
 refine W.rg env [1, 2] [2] ?_
 refine W.seq ?_
 obtain ⟨y1, hy2, H⟩ := of_bindO H
 refine W.region env [] [⟨.tup [roL 9 enc_Report y1.1, .int .i64 (y1.2)], [], 0, []⟩] rfl rfl rfl .nil (.free (c_fog_query__view fuel p0 p1 hy2) .nil) (At.keep (ts := [6, 7]) (ids := []) rfl rfl ?_)
 refine At.thenC ?_
 refine W.seq ?_
 refine W.rg env [6, 7, 17] [] ?_
 refine W.cond rfl (fun hb3 => ?_) (fun hb3 => ?_)
 · have H := of_true H hb3
   refine W.rg env [4, 5] [] ?_
   refine W.ret ?_
   refine At.rthen ?_
   cases H
   exact At.ret env.ty rfl rfl (fun q hq => by cases hq) (Sim.tupL (.cons (Sim.nil _ _) (.cons (.refl _) .nil))) hval
 · have H := of_false H hb3
   refine W.skip ?_
   refine At.thenC ?_
   refine W.seq ?_
   refine W.seq ?_
   obtain ⟨y4, hy5, H⟩ := of_bindO H
   refine W.region env [] [⟨.tup [roL 1 enc_Int y4.1, .bool (y4.2)], [], 0, []⟩] rfl rfl rfl .nil (.free (c_fog_view__pair y1.1 hy5) .nil) (At.keep (ts := [6, 9]) (ids := []) rfl rfl ?_)
   refine At.thenC ?_
   refine W.rg env [6, 24] [] ?_
   refine W.cond rfl (fun hb6 => ?_) (fun hb6 => ?_)
   · have H := of_true H hb6
     refine W.rg env [4, 5] [] ?_
     refine W.ret ?_
     refine At.rthen ?_
     cases H
     exact At.ret env.ty rfl rfl (fun q hq => by cases hq) (Sim.tupL (.cons (Sim.nil _ _) (.cons (.refl _) .nil))) hval
   · have H := of_false H hb6
     refine W.skip ?_
     refine At.thenC ?_
     refine W.rg env [4, 5] [] ?_
     refine W.ret ?_
     cases H
     exact At.ret env.ty rfl rfl (fun q hq => by cases hq) (.refl _) hval
theorem c_fog_view__of (p0 : (List Report)) (p1 : Int) : Ctr Tryz.prog 132 [roL 9 enc_Report p0, .int .i64 (p1)] (.clo (.func 154) [] [.rp [roL 9 enc_Report p0], .rp [.int .i64 (p1)]]) := by
 refine Ctr.of_body (N := 6) Tryz.func132 (by kernel_rfl) (c := _) rfl Tryz.ntmps132 rfl (fun w0 h0 hval => ?_)
 refine W.rg env [2, 3] [2, 3] ?_
 refine W.rg env [4] [2, 3] ?_
 refine W.ret ?_
 exact At.ret env.ty rfl rfl (fun q hq => by cases hq) (.refl _) hval
theorem c_fog_view__of_1 (c0 : (List Report)) (c1 : Int) {r : List (Report)} (H : fog_view__of_1 c0 c1 = some r) : Iter Tryz.prog 154 [.rp [roL 9 enc_Report c0], .rp [.int .i64 (c1)]] (r.map (fun (x : Report) => [.agg [.int .i64 (x.Source), .int .i64 (x.District), .int .i64 (x.Night), .int .i64 (x.From), .int .i64 (x.To), .int .i64 (x.Sight.Lo), .int .i64 (x.Sight.Hi), .int .i64 (x.Known), .int .i64 (x.Until)]])) := by
 unfold fog_view__of_1 at H
 have hYl := Yl.start r
 skip
 refine Iter.of_body (N := 25) Tryz.func154 (by kernel_rfl) (c := _) rfl Tryz.ntmps154 rfl (fun w0 h0 lp J hJ hval hY => ?_)
 refine W.rg env [0, 2, 6, 7, 8] [] ?_
 refine W.block ?_
 refine At.keep (ts := [0, 2, 6, 7, 8]) (ids := []) rfl rfl ?_
 refine W.len (t := 6) rfl (fun (hn1 : c0.length ≤ maxLen) => ?_)
 refine W.rangeGoI H hYl (fun i1 (s1 : Unit) => [(0, .fn (.yield lp) [] []), (2, .rp [.int .i64 (c1)]), (6, roL 9 enc_Report c0), (7, .int .i64 (((c0.length : Nat) : Int))), (8, .int .i64 ((i1 : Int)))]) (fun i1 (s1 : Unit) => []) (.cons .q (.cons .q (.cons .q (.cons .qi (.cons .qi .nil))))) .nil (fun k1 i1 s1 g r hle1 hYl H1 H2 K0 hK1 => ?_)
 refine W.rg env [0, 2, 6, 7, 8, 9] [] ?_
 refine W.seq ?_
 refine W.cond rfl (fun hb2 => ?_) (fun hb2 => ?_)
 · have hi1 : i1 < c0.length := by have := of_decide_eq_true hb2; omega
   have H := H1 hi1
   refine W.skip ?_
   refine At.thenC ?_
   refine W.seq ?_
   refine W.block ?_
   refine W.sr env [] [] [0, 2, 5, 6, 7, 8] [5] rfl rfl rfl (.cons (⟨by omega, by omega⟩ : 0 ≤ (i1 : Int) ∧ (i1 : Int) < ((c0.length : Nat) : Int)) .nil) .nil ?_
   refine W.seq ?_
   refine W.regionY env hY [] 9 [⟨.bool ((fog_within c1 ((c0.getD i1 default).From) ((c0.getD i1 default).To))), [], 0, []⟩] [] rfl rfl rfl rfl rfl rfl rfl rfl (fun b => rfl) rfl .nil (.free (c_fog_within c1 ((c0.getD i1 default).From) ((c0.getD i1 default).To)) .nil) (.cons (fun h => h) (.cons (fun h => h) .nil)) (fun b => (.cons (fun h => h) (.cons (fun h => h) .nil))) (fun b => .nil) (fun hW => Yl.item (fun (x : Report) => [.agg [.int .i64 (x.Source), .int .i64 (x.District), .int .i64 (x.Night), .int .i64 (x.From), .int .i64 (x.To), .int .i64 (x.Sight.Lo), .int .i64 (x.Sight.Hi), .int .i64 (x.Known), .int .i64 (x.Until)]]) H hYl hW) (fun b g1 hg1 hg2 => ?_)
   refine At.keep (ts := [0, 2, 6, 7, 8, 23]) (ids := []) rfl rfl ?_
   refine At.thenC ?_
   rcases Yl.split hg1 hg2 with ⟨hw1, hw2, rfl⟩ | ⟨hw1, hw2, hw3⟩
   · refine W.cond rfl (fun hb => ?_) (fun hb => ?_)
     · refine W.ret ?_
       refine At.rinb ?_
       refine At.rthen ?_
       refine At.rthen ?_
       refine At.rinb ?_
       exact At.iret rfl (.inl rfl) hval
     · exact absurd hb (by rw [hw1, hw2]; simp)
   · refine W.cond rfl (fun hb => ?_) (fun hb => ?_)
     · exact absurd hb (by intro hb; simp only [Bool.and_eq_true, Bool.not_eq_true'] at hb; have := hw1 (by first | exact hb.1 | (simp only [Bool.and_eq_true]; exact hb.1)); rw [this] at hb; simp at hb)
     · obtain ⟨r, H, hYl⟩ := Yl.next H hYl hw2 hw3
       refine W.skip ?_
       refine At.inb ?_
       refine At.thenC ?_
       refine W.region env [] [] rfl rfl rfl (.cons (by unfold inI; have := hn1; (try unfold maxLen at this); omega) .nil) .nil (At.keep (ts := [0, 2, 6, 7, 8]) (ids := []) rfl rfl ?_)
       refine At.thenK (At.keep (ts := [0, 2, 6, 7, 8]) (ids := []) rfl rfl ?_)
       exact At.conv (.cons .q (.cons .q (.cons .q (.cons .qi (.cons .qi .nil))))) .nil (hK1 hi1 () _ _ hYl H)
 · have H := H2 (by have := of_decide_eq_false hb2; omega)
   refine W.exit ?_
   refine At.xthen ?_
   refine At.xthen ?_
   refine At.xhere ?_
   refine At.iofNormal ?_
   exact At.iret rfl (.inr (Yl.fin (fun (x : Report) => [.agg [.int .i64 (x.Source), .int .i64 (x.District), .int .i64 (x.Night), .int .i64 (x.From), .int .i64 (x.To), .int .i64 (x.Sight.Lo), .int .i64 (x.Sight.Hi), .int .i64 (x.Known), .int .i64 (x.Until)]]) H hYl)) hval
theorem c_fog_view__sight (p0 : (List Report)) (p1 : Int) {r : Range} (H : fog_view__sight p0 p1 = some r) : Ctr Tryz.prog 71 [roL 9 enc_Report p0, .int .i64 (p1)] (.agg [.int .i64 (r.Lo), .int .i64 (r.Hi)]) := by
 unfold fog_view__sight at H
 refine Ctr.of_body (N := 26) Tryz.func71 (by kernel_rfl) (c := _) rfl Tryz.ntmps71 rfl (fun w0 h0 hval => ?_)
 refine W.rg env [0, 1, 4] [4] ?_
 refine W.rg env [0, 1, 4, 5] [4, 5] ?_
 refine W.seq ?_
 refine W.sr env [] [⟨.clo (.func 154) [] [.rp [roL 9 enc_Report p0], .rp [.int .i64 (p1)]], [], 0, []⟩] [4, 5, 10] [4, 5] rfl rfl rfl .nil (.free (c_fog_view__of p0 p1) .nil) ?_
 refine W.block ?_
 obtain ⟨it1, hit1, H⟩ := of_bindO H
 refine At.keep (ts := [4, 5, 10]) (ids := [4, 5]) rfl rfl ?_
 refine W.listGo H (fun (x : Report) => [.agg [.int .i64 (x.Source), .int .i64 (x.District), .int .i64 (x.Night), .int .i64 (x.From), .int .i64 (x.To), .int .i64 (x.Sight.Lo), .int .i64 (x.Sight.Hi), .int .i64 (x.Known), .int .i64 (x.Until)]]) (c_fog_view__of_1 p0 p1 hit1) rfl (fun _ => ⟨rfl, rfl⟩) rfl rfl rfl (fun (s2 : Range) => [(4, .cells [.int .i64 (0), .int .i64 (0)]), (5, .cells [.int .i64 (s2.Lo), .int .i64 (s2.Hi)])]) (.cons .q (.cons .q .nil)) (fun (x1 : Report) => [(4, .lp 4 0), (5, .lp 5 0), (6, .lp 6 0)]) (fun (x1 : Report) (s2 : Range) => [(4, .cells [.int .i64 (0), .int .i64 (0)]), (5, .cells [.int .i64 (s2.Lo), .int .i64 (s2.Hi)]), (6, .cells [.int .i64 (x1.Source), .int .i64 (x1.District), .int .i64 (x1.Night), .int .i64 (x1.From), .int .i64 (x1.To), .int .i64 (x1.Sight.Lo), .int .i64 (x1.Sight.Hi), .int .i64 (x1.Known), .int .i64 (x1.Until)])]) (fun _ (_ : Unit) => False) (fun _ _ => []) (fun _ _ h => h.elim) hval (fun h1 vs gh st lp x1 s2 K hK => ?_) (fun k2 h1 vs gh st lp x1 s2 H Qr hQ2 hX2 => ?_) (fun s2 H => ?_) (fun _ _ h => h.elim)
 · refine W.region env [] [] rfl rfl rfl .nil .nil (At.keep (ts := [4, 5, 6]) (ids := [4, 5, 6]) rfl rfl ?_)
   refine At.thenK (At.keep (ts := [4, 5, 6]) (ids := [4, 5, 6]) rfl rfl ?_)
   exact hK
 · refine W.block ?_
   refine W.region env [] [] rfl rfl rfl .nil .nil (At.keep (ts := [4]) (ids := [4, 5]) rfl rfl ?_)
   refine At.inb ?_
   refine At.keep (ts := []) (ids := [4, 5]) rfl rfl ?_
   exact At.conv .nil (.cons .q (.cons .q .nil)) (hQ2 (⟨(max s2.Lo x1.Sight.Lo), (min s2.Hi x1.Sight.Hi)⟩ : Range) H)
 · refine At.inb ?_
   refine At.thenC ?_
   refine W.rg env [4] [4] ?_
   refine W.ret ?_
   cases H
   exact At.ret env.ty rfl rfl (fun q hq => by cases hq) (.refl _) hval
theorem c_fog_Sight (fuel : Nat) (p0 : (List Report)) (p1 : Int) (p2 : Int) (p3 : Int) (p4 : Int) {r : (Range × Int)} (H : fog_Sight fuel p0 p1 p2 p3 p4 = some r) : Ctr Tryz.prog 16 [roL 9 enc_Report p0, .int .i64 (p1), .int .i64 (p2), .int .i64 (p3), .int .i64 (p4)] (.tup [.agg [.int .i64 (r.1.Lo), .int .i64 (r.1.Hi)], .int .i64 (r.2)]) := by
 unfold fog_Sight at H
 refine Ctr.of_body (N := 31) Tryz.func16 (by kernel_rfl) (c := _) rfl Tryz.ntmps16 rfl (fun w0 h0 hval => ?_)
 refine W.rg env [0, 1, 2, 3, 4, 10] [10] ?_
 refine W.seq ?_
 obtain ⟨y1, hy2, H⟩ := of_bindO H
 refine W.region env [] [⟨.tup [roL 9 enc_Report y1.1, .int .i64 (y1.2)], [], 0, []⟩] rfl rfl rfl .nil (.free (c_fog_query__clear fuel (⟨p1, p2, p4, p3, (⟨0, 0⟩ : Range), 1⟩ : fog_query) p0 hy2) .nil) (At.keep (ts := [3, 10, 12, 13]) (ids := [10]) rfl rfl ?_)
 refine At.thenC ?_
 refine W.seq ?_
 refine W.rg env [3, 10, 12, 13, 25] [10] ?_
 refine W.cond rfl (fun hb3 => ?_) (fun hb3 => ?_)
 · have H := of_true H hb3
   refine W.rg env [10, 11] [10] ?_
   refine W.ret ?_
   refine At.rthen ?_
   cases H
   exact At.ret env.ty rfl rfl (fun q hq => by cases hq) (.refl _) hval
 · have H := of_false H hb3
   refine W.skip ?_
   refine At.thenC ?_
   refine W.seq ?_
   obtain ⟨y4, hy5, H⟩ := of_bindO H
   refine W.region env [] [⟨.agg [.int .i64 (y4.Lo), .int .i64 (y4.Hi)], [], 0, []⟩] rfl rfl rfl .nil (.free (c_fog_view__sight y1.1 p3 hy5) .nil) (At.keep (ts := [10, 11]) (ids := [10]) rfl rfl ?_)
   refine At.thenC ?_
   refine W.ret ?_
   cases H
   exact At.ret env.ty rfl rfl (fun q hq => by cases hq) (.refl _) hval
theorem c_gasolierlaw05_reports  : Ctr Tryz.prog 75 [] (roL 9 enc_Report (gasolierlaw05_reports)) := by
 obtain ⟨r, H⟩ : ∃ r, gasolierlaw05_reports = r := ⟨_, rfl⟩
 rw [H]
 unfold gasolierlaw05_reports at H
 refine Ctr.of_body (N := 8) Tryz.func75 (by kernel_rfl) (c := _) rfl Tryz.ntmps75 rfl (fun w0 h0 hval => ?_)
 refine W.rg env [] [] ?_
 refine W.seq ?_
 refine W.region env [] [] rfl rfl rfl .nil .nil (At.keep (ts := [0]) (ids := []) rfl rfl ?_)
 refine At.slot (t := 0) (v := roL 9 enc_Report ([(⟨1, 1, 2, 300, 500, (⟨100, 400⟩ : Range), 3180, 0⟩ : Report), (⟨2, 1, 2, 400, 600, (⟨50, 150⟩ : Range), 3350, 0⟩ : Report), (⟨3, 1, 2, 450, 450, (⟨200, 300⟩ : Range), 3480, 0⟩ : Report)] : List Report)) (Sim.lit (f := enc_Report) ([(⟨1, 1, 2, 300, 500, (⟨100, 400⟩ : Range), 3180, 0⟩ : Report), (⟨2, 1, 2, 400, 600, (⟨50, 150⟩ : Range), 3350, 0⟩ : Report), (⟨3, 1, 2, 450, 450, (⟨200, 300⟩ : Range), 3480, 0⟩ : Report)] : List Report) rfl rfl (fun _ => rfl)) ?_
 refine At.thenC ?_
 refine W.ret ?_
 cases H
 exact At.ret env.ty rfl rfl (fun q hq => by cases hq) (.refl _) hval
theorem c_gasolierlaw05_policy  : Ctr Tryz.prog 76 [] (roL 8 enc_Node (gasolierlaw05_policy)) := by
 obtain ⟨r, H⟩ : ∃ r, gasolierlaw05_policy = r := ⟨_, rfl⟩
 rw [H]
 unfold gasolierlaw05_policy at H
 refine Ctr.of_body (N := 11) Tryz.func76 (by kernel_rfl) (c := _) rfl Tryz.ntmps76 rfl (fun w0 h0 hval => ?_)
 refine W.rg env [] [] ?_
 refine W.seq ?_
 refine W.region env [] [] rfl rfl rfl .nil .nil (At.keep (ts := [0]) (ids := []) rfl rfl ?_)
 refine At.slot (t := 0) (v := roL 8 enc_Node ([(⟨true, 1, 480, 200, 1, 2, 3, []⟩ : Node), (⟨false, 0, 0, 0, 0, 0, 0, ([(⟨1, 2⟩ : Send), (⟨2, 1⟩ : Send)] : List Send)⟩ : Node), (⟨false, 0, 0, 0, 0, 0, 0, []⟩ : Node), (⟨false, 0, 0, 0, 0, 0, 0, ([(⟨1, 1⟩ : Send)] : List Send)⟩ : Node)] : List Node)) (Sim.lit2 (f := enc_Node) ([(⟨true, 1, 480, 200, 1, 2, 3, []⟩ : Node), (⟨false, 0, 0, 0, 0, 0, 0, ([(⟨1, 2⟩ : Send), (⟨2, 1⟩ : Send)] : List Send)⟩ : Node), (⟨false, 0, 0, 0, 0, 0, 0, []⟩ : Node), (⟨false, 0, 0, 0, 0, 0, 0, ([(⟨1, 1⟩ : Send)] : List Send)⟩ : Node)] : List Node) (.cons (.refl _) (.cons (.refl _) (.cons (.refl _) (.cons (.refl _) (.cons (.refl _) (.cons (.refl _) (.cons (.refl _) (.cons (Sim.nil _ _) (.cons (.refl _) (.cons (.refl _) (.cons (.refl _) (.cons (.refl _) (.cons (.refl _) (.cons (.refl _) (.cons (.refl _) (.cons (Sim.lit (f := enc_Send) ([(⟨1, 2⟩ : Send), (⟨2, 1⟩ : Send)] : List Send) rfl rfl (fun _ => rfl)) (.cons (.refl _) (.cons (.refl _) (.cons (.refl _) (.cons (.refl _) (.cons (.refl _) (.cons (.refl _) (.cons (.refl _) (.cons (Sim.nil _ _) (.cons (.refl _) (.cons (.refl _) (.cons (.refl _) (.cons (.refl _) (.cons (.refl _) (.cons (.refl _) (.cons (.refl _) (.cons (Sim.lit (f := enc_Send) ([(⟨1, 1⟩ : Send)] : List Send) rfl rfl (fun _ => rfl)) .nil)))))))))))))))))))))))))))))))) rfl rfl (fun _ => rfl)) ?_
 refine At.thenC ?_
 refine W.ret ?_
 cases H
 exact At.ret env.ty rfl rfl (fun q hq => by cases hq) (.refl _) hval
theorem c_gasolierlaw05_runners  : Ctr Tryz.prog 77 [] (roL 2 enc_Runner (gasolierlaw05_runners)) := by
 obtain ⟨r, H⟩ : ∃ r, gasolierlaw05_runners = r := ⟨_, rfl⟩
 rw [H]
 unfold gasolierlaw05_runners at H
 refine Ctr.of_body (N := 8) Tryz.func77 (by kernel_rfl) (c := _) rfl Tryz.ntmps77 rfl (fun w0 h0 hval => ?_)
 refine W.rg env [] [] ?_
 refine W.seq ?_
 refine W.region env [] [] rfl rfl rfl .nil .nil (At.keep (ts := [0]) (ids := []) rfl rfl ?_)
 refine At.slot (t := 0) (v := roL 2 enc_Runner ([(⟨10, ([1] : List Int)⟩ : Runner), (⟨11, ([1, 2] : List Int)⟩ : Runner), (⟨12, ([2] : List Int)⟩ : Runner)] : List Runner)) (Sim.lit2 (f := enc_Runner) ([(⟨10, ([1] : List Int)⟩ : Runner), (⟨11, ([1, 2] : List Int)⟩ : Runner), (⟨12, ([2] : List Int)⟩ : Runner)] : List Runner) (.cons (.refl _) (.cons (Sim.lit (f := enc_Int) ([1] : List Int) rfl rfl (fun _ => rfl)) (.cons (.refl _) (.cons (Sim.lit (f := enc_Int) ([1, 2] : List Int) rfl rfl (fun _ => rfl)) (.cons (.refl _) (.cons (Sim.lit (f := enc_Int) ([2] : List Int) rfl rfl (fun _ => rfl)) .nil)))))) rfl rfl (fun _ => rfl)) ?_
 refine At.thenC ?_
 refine W.ret ?_
 cases H
 exact At.ret env.ty rfl rfl (fun q hq => by cases hq) (.refl _) hval
theorem c_fog_below (p0 : Range) (p1 : Int) : Ctr Tryz.prog 83 [.agg [.int .i64 (p0.Lo), .int .i64 (p0.Hi)], .int .i64 (p1)] (.int .i64 ((fog_below p0 p1))) := by
 obtain ⟨r, H⟩ : ∃ r, fog_below p0 p1 = r := ⟨_, rfl⟩
 rw [H]
 unfold fog_below at H
 refine Ctr.of_body (N := 15) Tryz.func83 (by kernel_rfl) (c := _) rfl Tryz.ntmps83 rfl (fun w0 h0 hval => ?_)
 refine W.rg env [1, 2] [2] ?_
 refine W.seq ?_
 refine W.block ?_
 refine W.rg env [1, 2, 5] [2] ?_
 refine W.cond rfl (fun hb1 => ?_) (fun hb1 => ?_)
 · have H := of_true H hb1
   refine W.rg env [4] [] ?_
   refine W.ret ?_
   refine At.rinb ?_
   refine At.rthen ?_
   cases H
   exact At.ret env.ty rfl rfl (fun q hq => by cases hq) (.refl _) hval
 · have H := of_false H hb1
   refine W.rg env [10] [] ?_
   refine W.cond rfl (fun hb2 => ?_) (fun hb2 => ?_)
   · have H := of_true H hb2
     refine W.rg env [4] [] ?_
     refine W.ret ?_
     refine At.rinb ?_
     refine At.rthen ?_
     cases H
     exact At.ret env.ty rfl rfl (fun q hq => by cases hq) (.refl _) hval
   · have H := of_false H hb2
     refine W.skip ?_
     refine At.inb ?_
     refine At.thenC ?_
     refine W.rg env [4] [] ?_
     refine W.ret ?_
     cases H
     exact At.ret env.ty rfl rfl (fun q hq => by cases hq) (.refl _) hval
theorem c_fog_Below (fuel : Nat) (p0 : (List Report)) (p1 : Int) (p2 : Int) (p3 : Int) (p4 : Int) (p5 : Int) {r : (Int × Int)} (H : fog_Below fuel p0 p1 p2 p3 p4 p5 = some r) : Ctr Tryz.prog 18 [roL 9 enc_Report p0, .int .i64 (p1), .int .i64 (p2), .int .i64 (p3), .int .i64 (p4), .int .i64 (p5)] (.tup [.int .i64 (r.1), .int .i64 (r.2)]) := by
 unfold fog_Below at H
 refine Ctr.of_body (N := 35) Tryz.func18 (by kernel_rfl) (c := _) rfl Tryz.ntmps18 rfl (fun w0 h0 hval => ?_)
 refine W.rg env [0, 1, 2, 3, 4, 5] [] ?_
 refine W.seq ?_
 obtain ⟨y1, hy2, H⟩ := of_bindO H
 refine W.region env [] [⟨.tup [roL 9 enc_Report y1.1, .int .i64 (y1.2)], [], 0, []⟩] rfl rfl rfl .nil (.free (c_fog_query__clear fuel (⟨p1, p2, p5, p3, (⟨0, 0⟩ : Range), p4⟩ : fog_query) p0 hy2) .nil) (At.keep (ts := [3, 4, 14, 15]) (ids := []) rfl rfl ?_)
 refine At.thenC ?_
 refine W.seq ?_
 refine W.rg env [3, 4, 14, 15, 28] [] ?_
 refine W.cond rfl (fun hb3 => ?_) (fun hb3 => ?_)
 · have H := of_true H hb3
   refine W.rg env [12, 13] [] ?_
   refine W.ret ?_
   refine At.rthen ?_
   cases H
   exact At.ret env.ty rfl rfl (fun q hq => by cases hq) (.refl _) hval
 · have H := of_false H hb3
   refine W.skip ?_
   refine At.thenC ?_
   refine W.seq ?_
   obtain ⟨y4, hy5, H⟩ := of_bindO H
   refine W.region env [] [⟨.agg [.int .i64 (y4.Lo), .int .i64 (y4.Hi)], [], 0, []⟩, ⟨.int .i64 ((fog_below y4 p4)), [], 0, []⟩] rfl rfl rfl .nil (.free (c_fog_view__sight y1.1 p3 hy5) (.free (c_fog_below y4 p4) .nil)) (At.keep (ts := [12, 13]) (ids := []) rfl rfl ?_)
   refine At.thenC ?_
   refine W.ret ?_
   cases H
   exact At.ret env.ty rfl rfl (fun q hq => by cases hq) (.refl _) hval
theorem c_fog_Clash (fuel : Nat) (p0 : (List Report)) (p1 : Int) (p2 : Int) (p3 : Int) {r : ((List Int) × Int)} (H : fog_Clash fuel p0 p1 p2 p3 = some r) : Ctr Tryz.prog 78 [roL 9 enc_Report p0, .int .i64 (p1), .int .i64 (p2), .int .i64 (p3)] (.tup [roL 1 enc_Int r.1, .int .i64 (r.2)]) := by
 unfold fog_Clash at H
 refine Ctr.of_body (N := 34) Tryz.func78 (by kernel_rfl) (c := _) rfl Tryz.ntmps78 rfl (fun w0 h0 hval => ?_)
 refine W.rg env [0, 1, 2, 3] [] ?_
 refine W.seq ?_
 obtain ⟨y1, hy2, H⟩ := of_bindO H
 refine W.region env [] [⟨.tup [roL 9 enc_Report y1.1, .int .i64 (y1.2)], [], 0, []⟩] rfl rfl rfl .nil (.free (c_fog_query__view fuel (⟨p1, p2, p3, 0, (⟨0, 0⟩ : Range), 1⟩ : fog_query) p0 hy2) .nil) (At.keep (ts := [10, 11]) (ids := []) rfl rfl ?_)
 refine At.thenC ?_
 refine W.seq ?_
 refine W.rg env [10, 11, 24] [] ?_
 refine W.cond rfl (fun hb3 => ?_) (fun hb3 => ?_)
 · have H := of_true H hb3
   refine W.rg env [8, 9] [] ?_
   refine W.ret ?_
   refine At.rthen ?_
   cases H
   exact At.ret env.ty rfl rfl (fun q hq => by cases hq) (Sim.tupL (.cons (Sim.nil _ _) (.cons (.refl _) .nil))) hval
 · have H := of_false H hb3
   refine W.skip ?_
   refine At.thenC ?_
   refine W.seq ?_
   obtain ⟨y4, hy5, H⟩ := of_bindO H
   refine W.region env [] [⟨.tup [roL 1 enc_Int y4.1, .bool (y4.2)], [], 0, []⟩] rfl rfl rfl .nil (.free (c_fog_view__pair y1.1 hy5) .nil) (At.keep (ts := [12, 13]) (ids := []) rfl rfl ?_)
   refine At.thenC ?_
   refine W.seq ?_
   refine W.rg env [12, 32] [] ?_
   refine W.cond rfl (fun hb6 => ?_) (fun hb6 => ?_)
   · have H := of_true H hb6
     refine W.rg env [8, 9] [] ?_
     refine W.ret ?_
     refine At.rthen ?_
     cases H
     exact At.ret env.ty rfl rfl (fun q hq => by cases hq) (Sim.tupL (.cons (Sim.nil _ _) (.cons (.refl _) .nil))) hval
   · have H := of_false H hb6
     refine W.skip ?_
     refine At.thenC ?_
     refine W.rg env [8, 9] [] ?_
     refine W.ret ?_
     cases H
     exact At.ret env.ty rfl rfl (fun q hq => by cases hq) (.refl _) hval
theorem c_fog_Worst (fuel : Nat) (p0 : (List Report)) (p1 : Int) (p2 : Int) (p3 : Range) (p4 : Int) {r : (Range × Int)} (H : fog_Worst fuel p0 p1 p2 p3 p4 = some r) : Ctr Tryz.prog 22 [roL 9 enc_Report p0, .int .i64 (p1), .int .i64 (p2), .agg [.int .i64 (p3.Lo), .int .i64 (p3.Hi)], .int .i64 (p4)] (.tup [.agg [.int .i64 (r.1.Lo), .int .i64 (r.1.Hi)], .int .i64 (r.2)]) := by
 unfold fog_Worst at H
 refine Ctr.of_body (N := 59) Tryz.func22 (by kernel_rfl) (c := _) rfl Tryz.ntmps22 rfl (fun w0 h0 hval => ?_)
 refine W.rg env [0, 1, 2, 4, 8, 10] [8, 10] ?_
 refine W.seq ?_
 obtain ⟨y1, hy2, H⟩ := of_bindO H
 refine W.region env [] [⟨.tup [roL 9 enc_Report y1.1, .int .i64 (y1.2)], [], 0, []⟩] rfl rfl rfl .nil (.free (c_fog_query__clear fuel (⟨p1, p2, p4, 0, p3, 1⟩ : fog_query) p0 hy2) .nil) (At.keep (ts := [8, 10, 12, 13]) (ids := [8, 10]) rfl rfl ?_)
 refine At.thenC ?_
 refine W.seq ?_
 refine W.rg env [8, 10, 12, 13, 28] [8, 10] ?_
 refine W.cond rfl (fun hb3 => ?_) (fun hb3 => ?_)
 · have H := of_true H hb3
   refine W.rg env [10, 11] [10] ?_
   refine W.ret ?_
   refine At.rthen ?_
   cases H
   exact At.ret env.ty rfl rfl (fun q hq => by cases hq) (.refl _) hval
 · have H := of_false H hb3
   refine W.skip ?_
   refine At.thenC ?_
   refine W.seq ?_
   obtain ⟨y4, hy5, H⟩ := of_bindO H
   refine W.region env [] [⟨.agg [.int .i64 (y4.Lo), .int .i64 (y4.Hi)], [], 0, []⟩] rfl rfl rfl .nil (.free (c_fog_view__sight y1.1 p3.Lo hy5) .nil) (At.keep (ts := [8, 10, 12, 14]) (ids := [8, 10, 14]) rfl rfl ?_)
   refine At.thenC ?_
   refine W.seq ?_
   obtain ⟨hc6, H⟩ := of_must H
   refine W.sr env [] [] [8, 10, 12, 14, 15] [8, 10, 14] rfl rfl rfl (.cons hc6 .nil) .nil ?_
   refine W.block ?_
   refine At.keep (ts := [8, 10, 12, 14, 15]) (ids := [8, 10, 14]) rfl rfl ?_
   refine W.loopGo H (fun (s7 : Int × Range) => [(8, .lp 8 0), (10, .lp 10 0), (12, roL 9 enc_Report y1.1), (14, .lp 14 0), (15, .int .i64 (s7.1))]) (fun (s7 : Int × Range) => [(8, .cells [.int .i64 (p3.Lo), .int .i64 (p3.Hi)]), (10, .cells [.int .i64 (0), .int .i64 (0)]), (14, .cells [.int .i64 (s7.2.Lo), .int .i64 (s7.2.Hi)])]) (.cons .q (.cons .q (.cons .q (.cons .q (.cons .qi .nil))))) (.cons .q (.cons .q (.cons .q .nil))) (fun k7 s7 H K0 hK7 => ?_)
   refine W.seq ?_
   refine W.rg env [8, 10, 12, 14, 15, 41] [8, 10, 14] ?_
   refine W.cond rfl (fun hb8 => ?_) (fun hb8 => ?_)
   · have H := of_true H hb8
     refine W.skip ?_
     refine At.thenC ?_
     refine W.seq ?_
     refine W.block ?_
     refine W.seq ?_
     obtain ⟨y9, hy10, H⟩ := of_bindO H
     refine W.region env [] [⟨.agg [.int .i64 (y9.Lo), .int .i64 (y9.Hi)], [], 0, []⟩] rfl rfl rfl .nil (.free (c_fog_view__sight y1.1 s7.1 hy10) .nil) (At.keep (ts := [8, 10, 12, 14, 15, 16]) (ids := [8, 10, 14, 16]) rfl rfl ?_)
     refine At.thenC ?_
     refine W.region env [] [] rfl rfl rfl .nil .nil (At.keep (ts := [8, 10, 12, 14, 15]) (ids := [8, 10, 14]) rfl rfl ?_)
     refine At.inb ?_
     refine At.thenC ?_
     obtain ⟨hc11, H⟩ := of_must H
     refine W.region env [] [] rfl rfl rfl (.cons hc11 .nil) .nil (At.keep (ts := [8, 10, 12, 14, 15]) (ids := [8, 10, 14]) rfl rfl ?_)
     refine At.thenK (At.keep (ts := [8, 10, 12, 14, 15]) (ids := [8, 10, 14]) rfl rfl ?_)
     exact At.conv (.cons .q (.cons .q (.cons .q (.cons .q (.cons .qi .nil))))) (.cons .q (.cons .q (.cons .q .nil))) (hK7 ((s7.1 + 1), (⟨(min s7.2.Lo y9.Lo), (min s7.2.Hi y9.Hi)⟩ : Range)) H)
   · have H := of_false H hb8
     refine W.exit ?_
     refine At.xthen ?_
     refine At.xthen ?_
     refine At.xhere ?_
     refine At.thenC ?_
     refine W.rg env [10, 11] [10] ?_
     refine W.ret ?_
     cases H
     exact At.ret env.ty rfl rfl (fun q hq => by cases hq) (.refl _) hval
theorem c_fog_areSends (p0 : (List Send)) {r : Bool} (H : fog_areSends p0 = some r) : Ctr Tryz.prog 146 [roL 2 enc_Send p0] (.bool (r)) := by
 unfold fog_areSends at H
 refine Ctr.of_body (N := 41) Tryz.func146 (by kernel_rfl) (c := _) rfl Tryz.ntmps146 rfl (fun w0 h0 hval => ?_)
 refine W.rg env [0] [] ?_
 refine W.seq ?_
 refine W.rg env [0, 5, 6, 7] [] ?_
 refine W.block ?_
 refine At.keep (ts := [0, 5, 6, 7]) (ids := []) rfl rfl ?_
 refine W.len (t := 5) rfl (fun (hn1 : p0.length ≤ maxLen) => ?_)
 refine W.rangeGo H (fun i1 (s1 : Unit) => [(0, roL 2 enc_Send p0), (5, roL 2 enc_Send p0), (6, .int .i64 (((p0.length : Nat) : Int))), (7, .int .i64 ((i1 : Int)))]) (fun i1 (s1 : Unit) => []) (.cons .q (.cons .q (.cons .qi (.cons .qi .nil)))) .nil (fun k1 i1 s1 hle1 H1 H2 K0 hK1 => ?_)
 refine W.rg env [0, 5, 6, 7, 8] [] ?_
 refine W.seq ?_
 refine W.cond rfl (fun hb2 => ?_) (fun hb2 => ?_)
 · have hi1 : i1 < p0.length := by have := of_decide_eq_true hb2; omega
   have H := H1 hi1
   refine W.skip ?_
   refine At.thenC ?_
   refine W.seq ?_
   refine W.block ?_
   refine W.sr env [] [] [0, 3, 4, 5, 6, 7] [4] rfl rfl rfl (.cons (⟨by omega, by omega⟩ : 0 ≤ (i1 : Int) ∧ (i1 : Int) < ((p0.length : Nat) : Int)) .nil) .nil ?_
   obtain ⟨hc3, H⟩ := of_must H
   obtain ⟨hc4, H⟩ := of_must H
   refine W.sr env [] [⟨.bool ((fog_isDistrict ((p0.getD i1 default).District))), [], 0, []⟩, ⟨.bool ((fog_within ((p0.getD i1 default).Many) 1 20)), [], 0, []⟩] [0, 5, 6, 7, 36] [] rfl rfl (by kernel_rfl) (.cons (fun h => h) (.cons (fun h => h) (.cons (fun h => h) (.cons (fun h => by rw [h]; rfl) (.cons (fun h => h) (.cons (fun h => h) (.cons hc3 (.cons (fun h => h) (.cons hc4 (.cons (fun h => h) (.cons (fun h => h) (.cons (fun h => h) (.cons (fun h => h) (.cons (fun h => h) (.cons (fun h => h) (.cons (fun h => h) (.cons (fun h => h) (.cons (fun hW h => by revert hW h; first | (simp +contextual; done) | grind) (.cons (fun h => by rw [h]; rfl) .nil))))))))))))))))))) (.free (c_fog_isDistrict ((p0.getD i1 default).District)) (.on (fun hW => c_fog_within ((p0.getD i1 default).Many) 1 20) .nil)) ?_
   refine W.cond rfl (fun hb5 => ?_) (fun hb5 => ?_)
   · have H := of_true H hb5
     refine W.rg env [2] [] ?_
     refine W.ret ?_
     refine At.rinb ?_
     refine At.rthen ?_
     refine At.rthen ?_
     refine At.rinb ?_
     refine At.rthen ?_
     cases H
     exact At.ret env.ty rfl rfl (fun q hq => by cases hq) (.refl _) hval
   · have H := of_false H hb5
     refine W.skip ?_
     refine At.inb ?_
     refine At.thenC ?_
     refine W.region env [] [] rfl rfl rfl (.cons (by unfold inI; have := hn1; (try unfold maxLen at this); omega) .nil) .nil (At.keep (ts := [0, 5, 6, 7]) (ids := []) rfl rfl ?_)
     refine At.thenK (At.keep (ts := [0, 5, 6, 7]) (ids := []) rfl rfl ?_)
     exact At.conv (.cons .q (.cons .q (.cons .qi (.cons .qi .nil)))) .nil (hK1 hi1 () H)
 · have H := H2 (by have := of_decide_eq_false hb2; omega)
   refine W.exit ?_
   refine At.xthen ?_
   refine At.xthen ?_
   refine At.xhere ?_
   refine At.thenC ?_
   refine W.rg env [2] [] ?_
   refine W.ret ?_
   cases H
   exact At.ret env.ty rfl rfl (fun q hq => by cases hq) (.refl _) hval
theorem c_fog_next (p0 : Node) : Ctr Tryz.prog 125 [.agg [.bool (p0.Test), .int .i64 (p0.District), .int .i64 (p0.Minute), .int .i64 (p0.Limit), .int .i64 (p0.Yes), .int .i64 (p0.No), .int .i64 (p0.Maybe), roL 2 enc_Send p0.Sends]] (romL (.int .i64 0) (fun (x : Int) => .int .i64 (x)) (fog_next p0)) := by
 obtain ⟨r, H⟩ : ∃ r, fog_next p0 = r := ⟨_, rfl⟩
 rw [H]
 unfold fog_next at H
 refine Ctr.of_body (N := 11) Tryz.func125 (by kernel_rfl) (c := _) rfl Tryz.ntmps125 rfl (fun w0 h0 hval => ?_)
 refine W.rg env [1] [1] ?_
 refine W.seq ?_
 refine W.region env [] [] rfl rfl rfl .nil .nil (At.keep (ts := [2]) (ids := [3]) rfl rfl ?_)
 refine At.convM (.cons (y := mapL (.int .i64 0) (fun (x : Int) => .int .i64 (x)) ((((Mp.empty : Mp Int).set 1 p0.Yes).set 0 p0.No).set 2 p0.Maybe)) (BSim.mseg (f := (fun (x : Int) => .int .i64 (x))) (MSeg.set (MSeg.set (MSeg.set (MSeg.empty rfl) p0.Yes rfl) p0.No rfl) p0.Maybe rfl)) .nil) ?_
 refine At.thenC ?_
 refine W.ret ?_
 cases H
 exact At.ret env.ty rfl rfl (fun q hq => by cases hq) (.refl _) hval
theorem c_fog_isNode (p0 : (List Node)) (p1 : Int) {r : Bool} (H : fog_isNode p0 p1 = some r) : Ctr Tryz.prog 110 [roL 8 enc_Node p0, .int .i64 (p1)] (.bool (r)) := by
 unfold fog_isNode at H
 refine Ctr.of_body (N := 102) Tryz.func110 (by kernel_rfl) (c := _) rfl Tryz.ntmps110 rfl (fun w0 h0 hval => ?_)
 refine W.rg env [0, 1] [] ?_
 obtain ⟨hc1, H⟩ := of_must H
 refine W.sr env [] [] [0, 1, 5] [5] rfl rfl rfl (.cons hc1 .nil) .nil ?_
 refine W.seq ?_
 refine W.rg env [0, 1, 5, 14] [5] ?_
 refine W.cond rfl (fun hb2 => ?_) (fun hb2 => ?_)
 · have H := of_true H hb2
   refine W.seq ?_
   obtain ⟨y3, hy4, H⟩ := of_bindO H
   refine W.region env [] [⟨.bool (y3), [], 0, []⟩] rfl rfl rfl (.cons (fun h => h) (.cons (fun h => h) (.cons (fun h => h) (.cons (fun h => h) (.cons (fun h => h) (.cons (fun h => h) (.cons (fun h => h) (.cons (fun h => h) (.cons (fun h => h) (.cons (fun h => h) (.cons (fun h => h) (.cons (fun h => h) (.cons (fun h => h) (.cons (fun h => h) (.cons (fun h => h) (.cons (fun h => h) (.cons (fun h => h) (.cons (fun h => h) .nil)))))))))))))))))) (.on (fun hW => c_fog_areSends ((p0.getD (p1).toNat default).Sends) (of_true hy4 hW)) .nil) (At.keep (ts := [4]) (ids := []) rfl rfl ?_)
   refine At.thenC ?_
   refine W.ret ?_
   refine At.rthen ?_
   cases H
   exact At.ret env.ty rfl rfl (fun q hq => by cases hq) (.refl _) hval
 · have H := of_false H hb2
   refine W.skip ?_
   refine At.thenC ?_
   refine W.seq ?_
   refine W.sr env [] [⟨.bool ((fog_isDistrict ((p0.getD (p1).toNat default).District))), [], 0, []⟩, ⟨.bool ((fog_isMinute ((p0.getD (p1).toNat default).Minute))), [], 0, []⟩, ⟨.bool ((fog_within ((p0.getD (p1).toNat default).Limit) 1 5000)), [], 0, []⟩] [0, 1, 5, 69] [5] rfl rfl rfl (.cons (fun h => h) (.cons (fun h => h) (.cons (fun h => h) (.cons (fun h => by rw [h]; rfl) (.cons (fun h => h) (.cons (fun h => h) (.cons (fun h => h) (.cons (fun h => by rw [h]; rfl) (.cons (fun h => h) (.cons (fun h => h) (.cons (fun h => h) (.cons (fun h => by rw [h]; rfl) .nil)))))))))))) (.free (c_fog_isDistrict ((p0.getD (p1).toNat default).District)) (.on (fun hW => c_fog_isMinute ((p0.getD (p1).toNat default).Minute)) (.on (fun hW => c_fog_within ((p0.getD (p1).toNat default).Limit) 1 5000) .nil))) ?_
   refine W.cond rfl (fun hb5 => ?_) (fun hb5 => ?_)
   · have H := of_true H hb5
     refine W.rg env [4] [] ?_
     refine W.ret ?_
     refine At.rthen ?_
     cases H
     exact At.ret env.ty rfl rfl (fun q hq => by cases hq) (.refl _) hval
   · have H := of_false H hb5
     refine W.skip ?_
     refine At.thenC ?_
     refine W.seq ?_
     refine W.sr env [] [⟨romL (.int .i64 0) (fun (x : Int) => .int .i64 (x)) (fog_next (p0.getD (p1).toNat default)), [], 0, []⟩] [0, 1, 5, 72] [5, 72] rfl rfl rfl .nil (.free (c_fog_next (p0.getD (p1).toNat default)) .nil) ?_
     refine W.block ?_
     obtain ⟨hok6, H⟩ := of_must H
     obtain ⟨y6, hy6, H⟩ := of_bindO H
     refine At.keep (ts := [0, 1, 5, 72]) (ids := [72, 5]) rfl rfl ?_
     refine At.iterOpen 72 rfl (fun left hleft => ?_)
     refine At.keep (ts := [0, 1, 5, 72]) (ids := [72, 5]) rfl rfl ?_
     refine W.iterLoop (S := Unit) 72 (fun k => (fun (x : Int) => .int .i64 (x)) (((fog_next (p0.getD (p1).toNat default)).get k).getD default)) (fun left _ => ∃ c, mapAny (fun (q6 : Int) => must (inI (p1 + 1)) <| must (inI (((p0.length : Nat) : Int) - 1)) <| must (((!(!(fog_within (((fog_next (p0.getD (p1).toNat default)).get q6).getD default) (p1 + 1) (((p0.length : Nat) : Int) - 1)))) = true → (0 ≤ ((((fog_next (p0.getD (p1).toNat default)).get q6).getD default) : Int) ∧ ((((fog_next (p0.getD (p1).toNat default)).get q6).getD default) : Int) < ((p0.length : Nat) : Int)))) <| must ((((!(!(fog_within (((fog_next (p0.getD (p1).toNat default)).get q6).getD default) (p1 + 1) (((p0.length : Nat) : Int) - 1)))) && ((p0.getD ((((fog_next (p0.getD (p1).toNat default)).get q6).getD default)).toNat default).Test)) = true → (0 ≤ ((((fog_next (p0.getD (p1).toNat default)).get q6).getD default) : Int) ∧ ((((fog_next (p0.getD (p1).toNat default)).get q6).getD default) : Int) < ((p0.length : Nat) : Int)))) <| (bif ((!(fog_within (((fog_next (p0.getD (p1).toNat default)).get q6).getD default) (p1 + 1) (((p0.length : Nat) : Int) - 1))) || (((p0.getD ((((fog_next (p0.getD (p1).toNat default)).get q6).getD default)).toNat default).Test) && (decide ((p0.getD ((((fog_next (p0.getD (p1).toNat default)).get q6).getD default)).toNat default).Minute < (p0.getD (p1).toNat default).Minute)))) then some true else some false)) left = some c ∧ (bif c then some false else some true) = some r) (fun _ => [(0, roL 8 enc_Node p0), (1, .int .i64 (p1)), (5, .lp 5 0), (72, .lp 72 0)]) (fun _ => [(5, .cells [.bool ((p0.getD (p1).toNat default).Test), .int .i64 ((p0.getD (p1).toNat default).District), .int .i64 ((p0.getD (p1).toNat default).Minute), .int .i64 ((p0.getD (p1).toNat default).Limit), .int .i64 ((p0.getD (p1).toNat default).Yes), .int .i64 ((p0.getD (p1).toNat default).No), .int .i64 ((p0.getD (p1).toNat default).Maybe), roL 2 enc_Send ((p0.getD (p1).toNat default).Sends)])]) (s0 := ()) ⟨y6, (mapAny_perm (Mp.perm hok6 hleft)).symm.trans hy6, H⟩ (.cons (.refl _) (.cons (.refl _) (.cons (.refl _) (.cons (.refl _) .nil)))) (.cons (.refl _) (.cons (.refl _) .nil)) (fun left _ HJ6 K hK6 => ?_)
     obtain ⟨c6, hc6, HJ6⟩ := HJ6
     refine W.seq ?_
     refine W.next rfl rfl rfl rfl rfl rfl rfl rfl rfl rfl rfl (fun hz => ?_) (fun q6 left2 hp6 => ?_)
     · subst hz
       cases hc6
       have H : some true = some r := HJ6
       refine At.thenC ?_
       refine W.seq ?_
       refine W.cond rfl (fun hb13 => by cases hb13) (fun hb13 => ?_)
       refine W.exit ?_
       refine At.xthen ?_
       refine At.xthen ?_
       refine At.xhere ?_
       refine At.thenC ?_
       refine W.rg env [4] [] ?_
       refine W.ret ?_
       cases H
       exact At.ret env.ty rfl rfl (fun q hq => by cases hq) (.refl _) hval
     · obtain ⟨b6, d6, H, hd6, rfl⟩ := mapAny_cons ((mapAny_perm hp6).symm.trans hc6)
       refine At.thenC ?_
       refine W.seq ?_
       refine W.cond rfl (fun hb7 => ?_) (fun hb7 => by cases hb7)
       refine W.skip ?_
       refine At.thenC ?_
       refine W.block ?_
       refine W.rg env [0, 1, 5, 7, 72] [5, 72] ?_
       obtain ⟨hc8, H⟩ := of_must H
       obtain ⟨hc9, H⟩ := of_must H
       obtain ⟨hc10, H⟩ := of_must H
       obtain ⟨hc11, H⟩ := of_must H
       refine W.sr env [] [⟨.bool ((fog_within (((fog_next (p0.getD (p1).toNat default)).get q6).getD default) (p1 + 1) (((p0.length : Nat) : Int) - 1))), [], 0, []⟩] [0, 1, 5, 72, 101] [5, 72] rfl rfl (by kernel_rfl) (.cons hc8 (.cons hc9 (.cons hc10 (.cons (fun h => h) (.cons (fun h => h) (.cons (fun h => h) (.cons (fun h => h) (.cons (fun h => h) (.cons hc11 (.cons (fun h => h) (.cons (fun h => h) (.cons (fun h => h) (.cons (fun h => h) (.cons (fun h => h) (.cons (fun h => h) (.cons (fun h => h) (.cons (fun h => h) (.cons (fun hW h => by revert hW h; first | (simp +contextual; done) | grind) (.cons (fun h => by rw [h]; rfl) .nil))))))))))))))))))) (.free (c_fog_within (((fog_next (p0.getD (p1).toNat default)).get q6).getD default) (p1 + 1) (((p0.length : Nat) : Int) - 1)) .nil) ?_
       refine W.cond rfl (fun hb12 => ?_) (fun hb12 => ?_)
       · have H := of_true H hb12
         refine W.rg env [4] [72] ?_
         cases H
         have H : some false = some r := HJ6
         refine W.ret ?_
         refine At.rinb ?_
         refine At.rthen ?_
         refine At.rinb ?_
         refine At.rthen ?_
         cases H
         exact At.ret env.ty rfl rfl (fun q hq => by cases hq) (.refl _) hval
       · have H := of_false H hb12
         refine W.skip ?_
         refine At.inb ?_
         cases H
         refine At.thenK (At.keep (ts := [0, 1, 5, 72]) (ids := [72, 5]) rfl rfl ?_)
         exact At.conv (.cons (.refl _) (.cons (.refl _) (.cons (.refl _) (.cons (.refl _) .nil)))) (.cons (.refl _) (.cons (.refl _) .nil)) (hK6 _ left2 () hp6 ⟨d6, hd6, HJ6⟩)
theorem c_fog_CheckPolicy (p0 : (List Node)) {r : Int} (H : fog_CheckPolicy p0 = some r) : Ctr Tryz.prog 48 [roL 8 enc_Node p0] (.int .i64 (r)) := by
 unfold fog_CheckPolicy at H
 refine Ctr.of_body (N := 52) Tryz.func48 (by kernel_rfl) (c := _) rfl Tryz.ntmps48 rfl (fun w0 h0 hval => ?_)
 refine W.rg env [0] [] ?_
 refine W.seq ?_
 refine W.sr env [] [⟨.bool ((fog_within ((p0.length : Nat) : Int) 1 31)), [], 0, []⟩] [0, 11] [] rfl rfl rfl .nil (.free (c_fog_within ((p0.length : Nat) : Int) 1 31) .nil) ?_
 refine W.cond rfl (fun hb1 => ?_) (fun hb1 => ?_)
 · have H := of_true H hb1
   refine W.rg env [2] [] ?_
   refine W.ret ?_
   refine At.rthen ?_
   cases H
   exact At.ret env.ty rfl rfl (fun q hq => by cases hq) (.refl _) hval
 · have H := of_false H hb1
   refine W.skip ?_
   refine At.thenC ?_
   refine W.seq ?_
   refine W.region env [] [] rfl rfl rfl .nil .nil (At.keep (ts := [0, 3]) (ids := [12]) rfl rfl ?_)
   refine At.convM (.cons (y := mapL (.bool false) (fun (x : Bool) => .bool (x)) (Mp.empty : Mp Bool)) (BSim.mseg (f := (fun (x : Bool) => .bool (x))) (MSeg.empty rfl)) .nil) ?_
   refine At.thenC ?_
   refine W.seq ?_
   refine W.rg env [0, 3, 13, 14, 15] [12] ?_
   refine W.block ?_
   refine At.keep (ts := [0, 3, 13, 14, 15]) (ids := [12]) rfl rfl ?_
   refine W.len (t := 13) rfl (fun (hn2 : p0.length ≤ maxLen) => ?_)
   refine W.rangeGo H (fun i2 (s2 : (Mp Bool)) => [(0, roL 8 enc_Node p0), (3, .mp 12), (13, roL 8 enc_Node p0), (14, .int .i64 (((p0.length : Nat) : Int))), (15, .int .i64 ((i2 : Int)))]) (fun i2 (s2 : (Mp Bool)) => [(12, mapL (.bool false) (fun (x : Bool) => .bool (x)) s2)]) (.cons .q (.cons .q (.cons .q (.cons .qi (.cons .qi .nil))))) (.cons .q .nil) (fun k2 i2 s2 hle2 H1 H2 K0 hK2 => ?_)
   refine W.rg env [0, 3, 13, 14, 15, 16] [12] ?_
   refine W.seq ?_
   refine W.cond rfl (fun hb3 => ?_) (fun hb3 => ?_)
   · have hi2 : i2 < p0.length := by have := of_decide_eq_true hb3; omega
     have H := H1 hi2
     refine W.skip ?_
     refine At.thenC ?_
     refine W.seq ?_
     refine W.joinC H (fun (s4 : (Mp Bool)) => [(0, roL 8 enc_Node p0), (3, .mp 12), (13, roL 8 enc_Node p0), (14, .int .i64 (((p0.length : Nat) : Int))), (15, .int .i64 ((i2 : Int)))]) (fun (s4 : (Mp Bool)) => [(12, mapL (.bool false) (fun (x : Bool) => .bool (x)) s4)]) (fun s4 H => ?_) (fun k4 H hK4 => ?_)
     · refine W.region env [] [] rfl rfl rfl (.cons (by unfold inI; have := hn2; (try unfold maxLen at this); omega) .nil) .nil (At.keep (ts := [0, 3, 13, 14, 15]) (ids := [12]) rfl rfl ?_)
       refine At.thenK (At.keep (ts := [0, 3, 13, 14, 15]) (ids := [12]) rfl rfl ?_)
       exact At.conv (.cons .q (.cons .q (.cons .q (.cons .qi (.cons .qi .nil))))) (.cons .q .nil) (hK2 hi2 s4 H)
     · refine W.block ?_
       refine W.sr env [] [] [0, 3, 4, 5, 13, 14, 15] [5, 12] rfl rfl rfl (.cons (⟨by omega, by omega⟩ : 0 ≤ (i2 : Int) ∧ (i2 : Int) < ((p0.length : Nat) : Int)) .nil) .nil ?_
       refine W.seq ?_
       refine W.seq ?_
       obtain ⟨y5, hy6, H⟩ := of_bindO H
       refine W.region env [] [⟨.bool (y5), [], 0, []⟩] rfl rfl rfl .nil (.free (c_fog_isNode p0 (i2 : Int) hy6) .nil) (At.keep (ts := [0, 3, 5, 13, 14, 15, 23]) (ids := [5, 12]) rfl rfl ?_)
       refine At.thenC ?_
       refine W.cond rfl (fun hb7 => ?_) (fun hb7 => ?_)
       · have H := of_true H hb7
         refine W.rg env [2] [] ?_
         refine W.ret ?_
         refine At.rthen ?_
         refine At.rinb ?_
         refine At.rthen ?_
         refine At.rthen ?_
         refine At.rinb ?_
         refine At.rthen ?_
         cases H
         exact At.ret env.ty rfl rfl (fun q hq => by cases hq) (.refl _) hval
       · have H := of_false H hb7
         refine W.skip ?_
         refine At.thenC ?_
         refine W.seq ?_
         refine W.rg env [0, 3, 5, 13, 14, 15, 26] [5, 12] ?_
         refine W.cond rfl (fun hb8 => ?_) (fun hb8 => ?_)
         · have H := of_true H hb8
           refine W.exit ?_
           refine At.xthen ?_
           refine At.xhere ?_
           refine At.thenK (At.keep (ts := [0, 3, 13, 14, 15]) (ids := [12]) rfl rfl ?_)
           exact At.conv (.cons .q (.cons .q (.cons .q (.cons .qi (.cons .qi .nil))))) (.cons .q .nil) (hK4 s2 H)
         · have H := of_false H hb8
           refine W.skip ?_
           refine At.thenC ?_
           refine W.seq ?_
           refine W.region env [] [] rfl rfl rfl .nil .nil (At.keep (ts := [0, 3, 13, 14, 15, 33, 34, 35]) (ids := [12]) rfl rfl ?_)
           refine At.slot (t := 33) (v := roL 1 enc_Int ([(p0.getD i2 default).Yes, (p0.getD i2 default).No, (p0.getD i2 default).Maybe] : List Int)) (Sim.lit (f := enc_Int) ([(p0.getD i2 default).Yes, (p0.getD i2 default).No, (p0.getD i2 default).Maybe] : List Int) rfl rfl (fun _ => rfl)) ?_
           refine At.thenC ?_
           refine W.block ?_
           refine At.keep (ts := [0, 3, 13, 14, 15, 33, 34, 35]) (ids := [12]) rfl rfl ?_
           refine W.len (t := 33) rfl (fun (hn9 : ([(p0.getD i2 default).Yes, (p0.getD i2 default).No, (p0.getD i2 default).Maybe] : List Int).length ≤ maxLen) => ?_)
           refine W.rangeGo H (fun i9 (s9 : (Mp Bool)) => [(0, roL 8 enc_Node p0), (3, .mp 12), (13, roL 8 enc_Node p0), (14, .int .i64 (((p0.length : Nat) : Int))), (15, .int .i64 ((i2 : Int))), (33, roL 1 enc_Int ([(p0.getD i2 default).Yes, (p0.getD i2 default).No, (p0.getD i2 default).Maybe] : List Int)), (34, .int .i64 (((([(p0.getD i2 default).Yes, (p0.getD i2 default).No, (p0.getD i2 default).Maybe] : List Int).length : Nat) : Int))), (35, .int .i64 ((i9 : Int)))]) (fun i9 (s9 : (Mp Bool)) => [(12, mapL (.bool false) (fun (x : Bool) => .bool (x)) s9)]) (.cons .q (.cons .q (.cons .q (.cons .qi (.cons .qi (.cons .q (.cons .qi (.cons .qi .nil)))))))) (.cons .q .nil) (fun k9 i9 s9 hle9 H1 H2 K0 hK9 => ?_)
           refine W.rg env [0, 3, 13, 14, 15, 33, 34, 35, 36] [12] ?_
           refine W.seq ?_
           refine W.cond rfl (fun hb10 => ?_) (fun hb10 => ?_)
           · have hi9 : i9 < ([(p0.getD i2 default).Yes, (p0.getD i2 default).No, (p0.getD i2 default).Maybe] : List Int).length := by have := of_decide_eq_true hb10; omega
             have H := H1 hi9
             refine W.skip ?_
             refine At.thenC ?_
             refine W.seq ?_
             refine W.block ?_
             refine W.sr env [] [] [0, 3, 7, 13, 14, 15, 33, 34, 35] [12] rfl rfl rfl (.cons (⟨by omega, by omega⟩ : 0 ≤ (i9 : Int) ∧ (i9 : Int) < ((([(p0.getD i2 default).Yes, (p0.getD i2 default).No, (p0.getD i2 default).Maybe] : List Int).length : Nat) : Int)) .nil) .nil ?_
             refine W.seq ?_
             refine W.sr env [] [] [0, 3, 7, 13, 14, 15, 33, 34, 35, 41] [12] rfl rfl rfl (.cons rfl .nil) .nil ?_
             refine W.cond rfl (fun hb11 => ?_) (fun hb11 => ?_)
             · have H := of_true H hb11
               refine W.rg env [2] [] ?_
               refine W.ret ?_
               refine At.rthen ?_
               refine At.rinb ?_
               refine At.rthen ?_
               refine At.rthen ?_
               refine At.rinb ?_
               refine At.rinb ?_
               refine At.rthen ?_
               refine At.rthen ?_
               refine At.rinb ?_
               refine At.rthen ?_
               cases H
               exact At.ret env.ty rfl rfl (fun q hq => by cases hq) (.refl _) hval
             · have H := of_false H hb11
               refine W.skip ?_
               refine At.thenC ?_
               refine W.region env [] [] rfl rfl rfl .nil .nil (At.keep (ts := [0, 3, 13, 14, 15, 33, 34, 35]) (ids := [12]) rfl rfl ?_)
               refine At.convM (.cons (y := mapL (.bool false) (fun (x : Bool) => .bool (x)) (s9.set (([(p0.getD i2 default).Yes, (p0.getD i2 default).No, (p0.getD i2 default).Maybe] : List Int).getD i9 default) true)) (BSim.mseg (f := (fun (x : Bool) => .bool (x))) (MSeg.set (MSeg.refl (fun (x : Bool) => .bool (x)) _) true rfl)) .nil) ?_
               refine At.inb ?_
               refine At.thenC ?_
               refine W.region env [] [] rfl rfl rfl (.cons (by unfold inI; have := hn9; (try unfold maxLen at this); omega) .nil) .nil (At.keep (ts := [0, 3, 13, 14, 15, 33, 34, 35]) (ids := [12]) rfl rfl ?_)
               refine At.thenK (At.keep (ts := [0, 3, 13, 14, 15, 33, 34, 35]) (ids := [12]) rfl rfl ?_)
               exact At.conv (.cons .q (.cons .q (.cons .q (.cons .qi (.cons .qi (.cons .q (.cons .qi (.cons .qi .nil)))))))) (.cons .q .nil) (hK9 hi9 (s9.set (([(p0.getD i2 default).Yes, (p0.getD i2 default).No, (p0.getD i2 default).Maybe] : List Int).getD i9 default) true) H)
           · have H := H2 (by have := of_decide_eq_false hb10; omega)
             refine W.exit ?_
             refine At.xthen ?_
             refine At.xthen ?_
             refine At.xhere ?_
             refine At.inb ?_
             refine At.thenK (At.keep (ts := [0, 3, 13, 14, 15]) (ids := [12]) rfl rfl ?_)
             exact At.conv (.cons .q (.cons .q (.cons .q (.cons .qi (.cons .qi .nil))))) (.cons .q .nil) (hK4 s9 H)
   · have H := H2 (by have := of_decide_eq_false hb3; omega)
     refine W.exit ?_
     refine At.xthen ?_
     refine At.xthen ?_
     refine At.xhere ?_
     refine At.thenC ?_
     refine W.seq ?_
     obtain ⟨hc12, H⟩ := of_must H
     refine W.sr env [] [] [51] [] rfl rfl rfl (.cons hc12 .nil) .nil ?_
     refine W.cond rfl (fun hb13 => ?_) (fun hb13 => ?_)
     · have H := of_true H hb13
       refine W.rg env [2] [] ?_
       refine W.ret ?_
       refine At.rthen ?_
       cases H
       exact At.ret env.ty rfl rfl (fun q hq => by cases hq) (.refl _) hval
     · have H := of_false H hb13
       refine W.skip ?_
       refine At.thenC ?_
       refine W.rg env [2] [] ?_
       refine W.ret ?_
       cases H
       exact At.ret env.ty rfl rfl (fun q hq => by cases hq) (.refl _) hval
theorem c_fog_asked (p0 : (List Node)) (p1 : (List Report)) (p2 : Int) (p3 : Int) {r : Int} (H : fog_asked p0 p1 p2 p3 = some r) : Ctr Tryz.prog 60 [roL 8 enc_Node p0, roL 9 enc_Report p1, .int .i64 (p2), .int .i64 (p3)] (.int .i64 (r)) := by
 unfold fog_asked at H
 refine Ctr.of_body (N := 26) Tryz.func60 (by kernel_rfl) (c := _) rfl Tryz.ntmps60 rfl (fun w0 h0 hval => ?_)
 refine W.rg env [0, 1, 2, 3] [] ?_
 refine W.seq ?_
 refine W.block ?_
 refine W.seq ?_
 obtain ⟨y1, hy2, H⟩ := of_bindO H
 refine W.region env [] [⟨.int .i64 (y1), [], 0, []⟩] rfl rfl rfl .nil (.free (c_fog_CheckPolicy p0 hy2) .nil) (At.keep (ts := [1, 2, 3, 9]) (ids := []) rfl rfl ?_)
 refine At.thenC ?_
 refine W.cond rfl (fun hb3 => ?_) (fun hb3 => ?_)
 · have H := of_true H hb3
   refine W.rg env [8] [] ?_
   refine W.ret ?_
   refine At.rinb ?_
   refine At.rthen ?_
   cases H
   exact At.ret env.ty rfl rfl (fun q hq => by cases hq) (.refl _) hval
 · have H := of_false H hb3
   refine W.seq ?_
   obtain ⟨y4, hy5, H⟩ := of_bindO H
   refine W.region env [] [⟨.int .i64 (y4), [], 0, []⟩] rfl rfl rfl .nil (.free (c_fog_Check p1 hy5) .nil) (At.keep (ts := [2, 3, 13]) (ids := []) rfl rfl ?_)
   refine At.thenC ?_
   refine W.cond rfl (fun hb6 => ?_) (fun hb6 => ?_)
   · have H := of_true H hb6
     refine W.rg env [8] [] ?_
     refine W.ret ?_
     refine At.rinb ?_
     refine At.rthen ?_
     cases H
     exact At.ret env.ty rfl rfl (fun q hq => by cases hq) (.refl _) hval
   · have H := of_false H hb6
     refine W.sr env [] [⟨.bool ((fog_isNight p2)), [], 0, []⟩, ⟨.bool ((fog_isMoment p3)), [], 0, []⟩] [17] [] rfl rfl rfl (.cons (fun h => h) (.cons (fun h => h) (.cons (fun h => by rw [h]; rfl) .nil))) (.free (c_fog_isNight p2) (.on (fun hW => c_fog_isMoment p3) .nil)) ?_
     refine W.cond rfl (fun hb7 => ?_) (fun hb7 => ?_)
     · have H := of_true H hb7
       refine W.rg env [8] [] ?_
       refine W.ret ?_
       refine At.rinb ?_
       refine At.rthen ?_
       cases H
       exact At.ret env.ty rfl rfl (fun q hq => by cases hq) (.refl _) hval
     · have H := of_false H hb7
       refine W.skip ?_
       refine At.inb ?_
       refine At.thenC ?_
       refine W.rg env [8] [] ?_
       refine W.ret ?_
       cases H
       exact At.ret env.ty rfl rfl (fun q hq => by cases hq) (.refl _) hval
theorem c_fog_moment (p0 : Int) (p1 : Int) {r : Int} (H : fog_moment p0 p1 = some r) : Ctr Tryz.prog 123 [.int .i64 (p0), .int .i64 (p1)] (.int .i64 (r)) := by
 unfold fog_moment at H
 refine Ctr.of_body (N := 9) Tryz.func123 (by kernel_rfl) (c := _) rfl Tryz.ntmps123 rfl (fun w0 h0 hval => ?_)
 refine W.rg env [0, 1] [] ?_
 obtain ⟨hc1, H⟩ := of_must H
 obtain ⟨hc2, H⟩ := of_must H
 refine W.sr env [] [] [4] [] rfl rfl rfl (.cons hc1 (.cons hc2 .nil)) .nil ?_
 refine W.ret ?_
 cases H
 exact At.ret env.ty rfl rfl (fun q hq => by cases hq) (.refl _) hval
theorem c_fog_tell (fuel : Nat) (p0 : Node) (p1 : (List Report)) (p2 : Int) (p3 : Int) {r : Int} (H : fog_tell fuel p0 p1 p2 p3 = some r) : Ctr Tryz.prog 124 [.agg [.bool (p0.Test), .int .i64 (p0.District), .int .i64 (p0.Minute), .int .i64 (p0.Limit), .int .i64 (p0.Yes), .int .i64 (p0.No), .int .i64 (p0.Maybe), roL 2 enc_Send p0.Sends], roL 9 enc_Report p1, .int .i64 (p2), .int .i64 (p3)] (.int .i64 (r)) := by
 unfold fog_tell at H
 refine Ctr.of_body (N := 31) Tryz.func124 (by kernel_rfl) (c := _) rfl Tryz.ntmps124 rfl (fun w0 h0 hval => ?_)
 refine W.rg env [1, 2, 3, 4] [4] ?_
 refine W.seq ?_
 obtain ⟨y1, hy2, H⟩ := of_bindO H
 refine W.region env [] [⟨roL 9 enc_Report y1, [], 0, []⟩] rfl rfl rfl .nil (.free (c_fog_see fuel p1 p0.District p2 p3 hy2) .nil) (At.keep (ts := [4, 9]) (ids := [4]) rfl rfl ?_)
 refine At.thenC ?_
 refine W.seq ?_
 refine W.seq ?_
 obtain ⟨y3, hy4, H⟩ := of_bindO H
 refine W.region env [] [⟨.tup [roL 1 enc_Int y3.1, .bool (y3.2)], [], 0, []⟩] rfl rfl rfl .nil (.free (c_fog_view__pair y1 hy4) .nil) (At.keep (ts := [4, 9, 11]) (ids := [4]) rfl rfl ?_)
 refine At.thenC ?_
 refine W.rg env [4, 9, 23] [4] ?_
 refine W.cond rfl (fun hb5 => ?_) (fun hb5 => ?_)
 · have H := of_true H hb5
   refine W.rg env [8] [] ?_
   refine W.ret ?_
   refine At.rthen ?_
   cases H
   exact At.ret env.ty rfl rfl (fun q hq => by cases hq) (.refl _) hval
 · have H := of_false H hb5
   refine W.skip ?_
   refine At.thenC ?_
   refine W.seq ?_
   obtain ⟨y6, hy7, H⟩ := of_bindO H
   refine W.region env [] [⟨.agg [.int .i64 (y6.Lo), .int .i64 (y6.Hi)], [], 0, []⟩, ⟨.int .i64 ((fog_below y6 p0.Limit)), [], 0, []⟩] rfl rfl (by kernel_rfl) .nil (.free (c_fog_view__sight y1 p0.Minute hy7) (.free (c_fog_below y6 p0.Limit) .nil)) (At.keep (ts := [8]) (ids := []) rfl rfl ?_)
   refine At.thenC ?_
   refine W.ret ?_
   cases H
   exact At.ret env.ty rfl rfl (fun q hq => by cases hq) (.refl _) hval
theorem c_fog_path (fuel : Nat) (p0 : (List Node)) (p1 : (List Report)) (p2 : Int) {r : (List Int)} (H : fog_path fuel p0 p1 p2 = some r) : Ctr Tryz.prog 68 [roL 8 enc_Node p0, roL 9 enc_Report p1, .int .i64 (p2)] (roL 1 enc_Int r) := by
 unfold fog_path at H
 refine Ctr.of_body (N := 40) Tryz.func68 (by kernel_rfl) (c := _) rfl Tryz.ntmps68 rfl (fun w0 h0 hval => ?_)
 refine W.rg env [0, 1, 2] [] ?_
 refine W.seq ?_
 refine W.region env [9] [] rfl rfl rfl .nil .nil (At.keep (ts := [0, 1, 2, 7]) (ids := [9]) rfl rfl ?_)
 refine At.convM (.cons (y := bufL 3 1 enc_Int ([0] : List Int)) (BSim.seg (Seg.lit (f := enc_Int) (sz := 1) ([0] : List Int) rfl rfl (fun _ => rfl))) .nil) ?_
 refine At.thenC ?_
 refine W.seq ?_
 refine W.rg env [0, 1, 2, 7, 8] [9] ?_
 refine W.block ?_
 refine At.keep (ts := [0, 1, 2, 7, 8]) (ids := [9]) rfl rfl ?_
 refine W.loopGo H (fun (s1 : Int × (List Int)) => [(0, roL 8 enc_Node p0), (1, roL 9 enc_Report p1), (2, .int .i64 (p2)), (7, .buf 9 (s1.2).length), (8, .int .i64 (s1.1))]) (fun (s1 : Int × (List Int)) => [(9, bufL 3 1 enc_Int s1.2)]) (.cons .q (.cons .q (.cons .qi (.cons .qb (.cons .qi .nil))))) (.cons .q .nil) (fun k1 s1 H K0 hK1 => ?_)
 refine W.seq ?_
 obtain ⟨hc2, H⟩ := of_must H
 refine W.sr env [] [] [0, 1, 2, 7, 8, 14] [9] rfl rfl rfl (.cons hc2 .nil) .nil ?_
 refine W.cond rfl (fun hb3 => ?_) (fun hb3 => ?_)
 · have H := of_true H hb3
   refine W.skip ?_
   refine At.thenC ?_
   refine W.seq ?_
   refine W.block ?_
   obtain ⟨hc4, H⟩ := of_must H
   obtain ⟨hc5, H⟩ := of_must H
   obtain ⟨hc6, H⟩ := of_must H
   obtain ⟨y7, hy8, H⟩ := of_bindO H
   obtain ⟨y9, hy10, H⟩ := of_bindO H
   refine W.region env [] [⟨romL (.int .i64 0) (fun (x : Int) => .int .i64 (x)) (fog_next (p0.getD (s1.1).toNat default)), [], 0, []⟩, ⟨.int .i64 (y7), [], 0, []⟩, ⟨.int .i64 (y9), [], 0, []⟩] rfl rfl (by kernel_rfl) (.cons hc4 (.cons hc5 (.cons hc6 (.cons rfl .nil)))) (.free (c_fog_next (p0.getD (s1.1).toNat default)) (.free (c_fog_moment p2 ((p0.getD (s1.1).toNat default).Minute) hy8) (.free (c_fog_tell fuel (p0.getD (s1.1).toNat default) p1 p2 y7 hy10) .nil))) (At.keep (ts := [0, 1, 2, 7, 8]) (ids := [9]) rfl rfl ?_)
   refine At.inb ?_
   refine At.thenC ?_
   obtain ⟨hc11, H⟩ := of_must H
   refine W.region env [] [] rfl rfl rfl (.cons (⟨by first | rfl | (simp; done) | omega | (simp; omega), by have := hc11; first | simpa using this | (unfold room at this ⊢; simp at this ⊢; omega)⟩) .nil) .nil (At.keep (ts := [0, 1, 2, 7, 8]) (ids := [9]) rfl rfl ?_)
   refine At.convM (.cons (y := bufL 3 1 enc_Int (s1.2 ++ ([(((fog_next (p0.getD (s1.1).toNat default)).get y9).getD default)] : List Int))) (BSim.seg (Seg.push (Seg.refl enc_Int _) (Seg.lit (f := enc_Int) (sz := 1) ([(((fog_next (p0.getD (s1.1).toNat default)).get y9).getD default)] : List Int) rfl rfl (fun _ => rfl)))) .nil) ?_
   refine At.thenK (At.keep (ts := [0, 1, 2, 7, 8]) (ids := [9]) rfl rfl ?_)
   exact At.conv (.cons .q (.cons .q (.cons .qi (.cons .qb (.cons .qi .nil))))) (.cons .q .nil) (hK1 ((((fog_next (p0.getD (s1.1).toNat default)).get y9).getD default), (s1.2 ++ ([(((fog_next (p0.getD (s1.1).toNat default)).get y9).getD default)] : List Int))) H)
 · have H := of_false H hb3
   refine W.exit ?_
   refine At.xthen ?_
   refine At.xthen ?_
   refine At.xhere ?_
   refine At.thenC ?_
   refine W.rg env [6] [9] ?_
   refine W.ret ?_
   cases H
   exact At.ret env.ty rfl rfl (fun q hq => by cases hq; exact (by first | rfl | (simp; done) | omega | (simp; omega))) (.refl _) hval
theorem c_fog_Path (fuel : Nat) (p0 : (List Node)) (p1 : (List Report)) (p2 : Int) {r : ((List Int) × Int)} (H : fog_Path fuel p0 p1 p2 = some r) : Ctr Tryz.prog 37 [roL 8 enc_Node p0, roL 9 enc_Report p1, .int .i64 (p2)] (.tup [roL 1 enc_Int r.1, .int .i64 (r.2)]) := by
 unfold fog_Path at H
 refine Ctr.of_body (N := 20) Tryz.func37 (by kernel_rfl) (c := _) rfl Tryz.ntmps37 rfl (fun w0 h0 hval => ?_)
 refine W.rg env [0, 1, 2] [] ?_
 refine W.seq ?_
 refine W.seq ?_
 obtain ⟨y1, hy2, H⟩ := of_bindO H
 refine W.region env [] [⟨.int .i64 (y1), [], 0, []⟩] rfl rfl rfl .nil (.free (c_fog_asked p0 p1 p2 0 hy2) .nil) (At.keep (ts := [0, 1, 2, 8]) (ids := []) rfl rfl ?_)
 refine At.thenC ?_
 refine W.rg env [0, 1, 2, 8, 14] [] ?_
 refine W.cond rfl (fun hb3 => ?_) (fun hb3 => ?_)
 · have H := of_true H hb3
   refine W.rg env [6, 7] [] ?_
   refine W.ret ?_
   refine At.rthen ?_
   cases H
   exact At.ret env.ty rfl rfl (fun q hq => by cases hq) (Sim.tupL (.cons (Sim.nil _ _) (.cons (.refl _) .nil))) hval
 · have H := of_false H hb3
   refine W.skip ?_
   refine At.thenC ?_
   refine W.seq ?_
   obtain ⟨y4, hy5, H⟩ := of_bindO H
   refine W.region env [] [⟨roL 1 enc_Int y4, [], 0, []⟩] rfl rfl rfl .nil (.free (c_fog_path fuel p0 p1 p2 hy5) .nil) (At.keep (ts := [6, 7]) (ids := []) rfl rfl ?_)
   refine At.thenC ?_
   refine W.ret ?_
   cases H
   exact At.ret env.ty rfl rfl (fun q hq => by cases hq) (.refl _) hval
theorem cl_fog_possible_1_l (fuel : Nat) : ∀ (n : Nat) (p0 : Int) (c0 : (List Node)) (c1 : (List Int)) (c2 : Int) (c3 : (List Report)) (c4 : Int) {r : (List Int)} (H : fog_possible_1_l fuel n p0 c0 c1 c2 c3 c4 = some r), CtrO Tryz.prog 122 [.int .i64 (p0), .lp 90000 0, .lp 90001 0, .lp 90003 0, .lp 90004 0, .lp 90005 0, .lp 90006 0] [(90000, .cells [roL 8 enc_Node c0]), (90001, .cells [.buf 90002 (c1).length]), (90002, bufL 3 1 enc_Int c1), (90003, .cells [.int .i64 (c2)]), (90004, .cells [roL 9 enc_Report c3]), (90005, .cells [.int .i64 (c4)]), (90006, .cells [.fn (.func 122) [] [.lp 90000 0, .lp 90001 0, .lp 90003 0, .lp 90004 0, .lp 90005 0, .lp 90006 0]])] (.tup []) [(90000, .cells [roL 8 enc_Node c0]), (90001, .cells [.buf 90002 (r).length]), (90002, bufL 3 1 enc_Int r), (90003, .cells [.int .i64 (c2)]), (90004, .cells [roL 9 enc_Report c3]), (90005, .cells [.int .i64 (c4)]), (90006, .cells [.fn (.func 122) [] [.lp 90000 0, .lp 90001 0, .lp 90003 0, .lp 90004 0, .lp 90005 0, .lp 90006 0]])] := by
 intro n; induction n with
 | zero => intro p0 c0 c1 c2 c3 c4 r H; cases H
 | succ n ih =>
   intro p0 c0 c1 c2 c3 c4 r H
   have H : fog_possible_1_l_F fuel (fog_possible_1_l fuel n) p0 c0 c1 c2 c3 c4 = some r := H
   unfold fog_possible_1_l_F at H
   refine CtrL.of_body (N := 64) Tryz.func122 (by kernel_rfl) (c := _) rfl Tryz.ntmps122 rfl rfl (fun w0 h0 ρb hval hdom hent => ?_)
   obtain ⟨hc1, H⟩ := of_must H
   refine W.sr env [] [] [0, 2, 3, 4, 5, 6, 8] [8, 90000, 90001, 90002, 90003, 90004, 90005, 90006] rfl rfl rfl (.cons hc1 .nil) .nil ?_
   refine W.seq ?_
   refine W.rg env [0, 2, 3, 4, 5, 6, 8, 19] [8, 90000, 90001, 90002, 90003, 90004, 90005, 90006] ?_
   refine W.cond rfl (fun hb2 => ?_) (fun hb2 => ?_)
   · have H := of_true H hb2
     refine W.seq ?_
     obtain ⟨hc3, H⟩ := of_must H
     refine W.region env [] [] rfl rfl rfl (.cons (⟨by first | rfl | (simp; done) | omega | (simp; omega), by have := hc3; first | simpa using this | (unfold room at this ⊢; simp at this ⊢; omega)⟩) .nil) .nil (At.keep (ts := []) (ids := [90000, 90001, 90002, 90003, 90004, 90005, 90006]) rfl rfl ?_)
     refine At.convM (.cons (.refl _) (.cons (.refl _) (.cons (y := bufL 3 1 enc_Int (c1 ++ ([p0] : List Int))) (BSim.seg (Seg.push (Seg.refl enc_Int _) (Seg.lit (f := enc_Int) (sz := 1) ([p0] : List Int) rfl rfl (fun _ => rfl)))) (.cons (.refl _) (.cons (.refl _) (.cons (.refl _) (.cons (.refl _) .nil))))))) ?_
     refine At.thenC ?_
     refine W.ret ?_
     refine At.rthen ?_
     cases H
     exact At.retL env.ty [90000, 90001, 90002, 90003, 90004, 90005, 90006] rfl rfl rfl rfl (.cons (.refl _) (.cons (BSim.cells (.cons .qc .nil)) (.cons (.refl _) (.cons (.refl _) (.cons (.refl _) (.cons (.refl _) (.cons (.refl _) .nil))))))) (.refl _) hval hdom hent rfl rfl
   · have H := of_false H hb2
     refine W.skip ?_
     refine At.thenC ?_
     refine W.seq ?_
     obtain ⟨y4, hy5, H⟩ := of_bindO H
     refine W.region env [] [⟨.int .i64 (y4), [], 0, []⟩] rfl rfl rfl .nil (.free (c_fog_moment c2 ((c0.getD (p0).toNat default).Minute) hy5) .nil) (At.keep (ts := [3, 4, 5, 6, 8, 9]) (ids := [8, 90000, 90001, 90002, 90003, 90004, 90005, 90006]) rfl rfl ?_)
     refine At.thenC ?_
     refine W.seq ?_
     obtain ⟨y6, hy7, H⟩ := of_bindO H
     refine W.region env [] [⟨.int .i64 (y6), [], 0, []⟩] rfl rfl rfl .nil (.free (c_fog_tell fuel (c0.getD (p0).toNat default) c3 c2 (min y4 c4) hy7) .nil) (At.keep (ts := [5, 6, 8, 9, 10]) (ids := [8, 90000, 90001, 90002, 90003, 90004, 90005, 90006]) rfl rfl ?_)
     refine At.thenC ?_
     refine W.seq ?_
     refine W.sr env [] [] [6, 8, 10, 41] [8, 90000, 90001, 90002, 90003, 90004, 90005, 90006] rfl rfl rfl (.cons (fun h => h) (.cons (fun h => h) .nil)) .nil ?_
     refine W.cond rfl (fun hb8 => ?_) (fun hb8 => ?_)
     · have H := of_true H hb8
       refine W.seq ?_
       refine W.seq ?_
       refine W.region env [] [] rfl rfl rfl .nil .nil (At.keep (ts := [6, 48, 49, 50]) (ids := [90000, 90001, 90002, 90003, 90004, 90005, 90006]) rfl rfl ?_)
       refine At.slot (t := 48) (v := roL 1 enc_Int ([(c0.getD (p0).toNat default).Yes, (c0.getD (p0).toNat default).No, (c0.getD (p0).toNat default).Maybe] : List Int)) (Sim.lit (f := enc_Int) ([(c0.getD (p0).toNat default).Yes, (c0.getD (p0).toNat default).No, (c0.getD (p0).toNat default).Maybe] : List Int) rfl rfl (fun _ => rfl)) ?_
       refine At.thenC ?_
       refine W.block ?_
       refine At.keep (ts := [6, 48, 49, 50]) (ids := [90000, 90001, 90002, 90003, 90004, 90005, 90006]) rfl rfl ?_
       refine W.len (t := 48) rfl (fun (hn9 : ([(c0.getD (p0).toNat default).Yes, (c0.getD (p0).toNat default).No, (c0.getD (p0).toNat default).Maybe] : List Int).length ≤ maxLen) => ?_)
       refine W.rangeGo H (fun i9 (s9 : (List Int)) => [(6, .lp 90006 0), (48, roL 1 enc_Int ([(c0.getD (p0).toNat default).Yes, (c0.getD (p0).toNat default).No, (c0.getD (p0).toNat default).Maybe] : List Int)), (49, .int .i64 (((([(c0.getD (p0).toNat default).Yes, (c0.getD (p0).toNat default).No, (c0.getD (p0).toNat default).Maybe] : List Int).length : Nat) : Int))), (50, .int .i64 ((i9 : Int)))]) (fun i9 (s9 : (List Int)) => [(90000, .cells [roL 8 enc_Node c0]), (90001, .cells [.buf 90002 (s9).length]), (90002, bufL 3 1 enc_Int s9), (90003, .cells [.int .i64 (c2)]), (90004, .cells [roL 9 enc_Report c3]), (90005, .cells [.int .i64 (c4)]), (90006, .cells [.fn (.func 122) [] [.lp 90000 0, .lp 90001 0, .lp 90003 0, .lp 90004 0, .lp 90005 0, .lp 90006 0]])]) (.cons .q (.cons .q (.cons .qi (.cons .qi .nil)))) (.cons .q (.cons (BSim.cells (.cons .qc .nil)) (.cons .q (.cons .q (.cons .q (.cons .q (.cons .q .nil))))))) (fun k9 i9 s9 hle9 H1 H2 K0 hK9 => ?_)
       refine W.rg env [6, 48, 49, 50, 51] [90000, 90001, 90002, 90003, 90004, 90005, 90006] ?_
       refine W.seq ?_
       refine W.cond rfl (fun hb10 => ?_) (fun hb10 => ?_)
       · have hi9 : i9 < ([(c0.getD (p0).toNat default).Yes, (c0.getD (p0).toNat default).No, (c0.getD (p0).toNat default).Maybe] : List Int).length := by have := of_decide_eq_true hb10; omega
         have H := H1 hi9
         refine W.skip ?_
         refine At.thenC ?_
         refine W.seq ?_
         refine W.block ?_
         refine W.sr env [] [] [6, 12, 48, 49, 50] [90000, 90001, 90002, 90003, 90004, 90005, 90006] rfl rfl rfl (.cons (⟨by omega, by omega⟩ : 0 ≤ (i9 : Int) ∧ (i9 : Int) < ((([(c0.getD (p0).toNat default).Yes, (c0.getD (p0).toNat default).No, (c0.getD (p0).toNat default).Maybe] : List Int).length : Nat) : Int)) .nil) .nil ?_
         obtain ⟨y11, hy12, H⟩ := of_bindO H
         refine W.region env [] [⟨.tup [], [(90000, .cells [roL 8 enc_Node c0]), (90001, .cells [.buf 90002 (y11).length]), (90002, bufL 3 1 enc_Int y11), (90003, .cells [.int .i64 (c2)]), (90004, .cells [roL 9 enc_Report c3]), (90005, .cells [.int .i64 (c4)]), (90006, .cells [.fn (.func 122) [] [.lp 90000 0, .lp 90001 0, .lp 90003 0, .lp 90004 0, .lp 90005 0, .lp 90006 0]])], 0, [90000, 90001, 90002, 90003, 90004, 90005, 90006]⟩] rfl rfl (by kernel_rfl) .nil (.free (CtrO.sim (CtrO.ren (ih (([(c0.getD (p0).toNat default).Yes, (c0.getD (p0).toNat default).No, (c0.getD (p0).toNat default).Maybe] : List Int).getD i9 default) c0 s9 c2 c3 c4 hy12) [(90000, 90000), (90001, 90001), (90002, 90002), (90003, 90003), (90004, 90004), (90005, 90005), (90006, 90006)]) (.cons (.refl _) (.cons (.refl _) (.cons (.refl _) (.cons (.refl _) (.cons (.refl _) (.cons (.refl _) (.cons (.refl _) .nil))))))) (.cons (.refl _) (.cons (BSim.cells (.cons .qc .nil)) (.cons (.refl _) (.cons (.refl _) (.cons (.refl _) (.cons (.refl _) (.cons (.refl _) .nil)))))))) .nil) (At.keep (ts := [6, 48, 49, 50]) (ids := [90000, 90001, 90002, 90003, 90004, 90005, 90006]) rfl rfl ?_)
         refine At.inb ?_
         refine At.thenC ?_
         refine W.region env [] [] rfl rfl rfl (.cons (by unfold inI; have := hn9; (try unfold maxLen at this); omega) .nil) .nil (At.keep (ts := [6, 48, 49, 50]) (ids := [90000, 90001, 90002, 90003, 90004, 90005, 90006]) rfl rfl ?_)
         refine At.thenK (At.keep (ts := [6, 48, 49, 50]) (ids := [90000, 90001, 90002, 90003, 90004, 90005, 90006]) rfl rfl ?_)
         exact At.conv (.cons .q (.cons .q (.cons .qi (.cons .qi .nil)))) (.cons .q (.cons (BSim.cells (.cons .qc .nil)) (.cons .q (.cons .q (.cons .q (.cons .q (.cons .q .nil))))))) (hK9 hi9 y11 H)
       · have H := H2 (by have := of_decide_eq_false hb10; omega)
         refine W.exit ?_
         refine At.xthen ?_
         refine At.xthen ?_
         refine At.xhere ?_
         refine At.thenC ?_
         refine W.ret ?_
         refine At.rthen ?_
         cases H
         exact At.retL env.ty [90000, 90001, 90002, 90003, 90004, 90005, 90006] rfl rfl rfl rfl (.cons (.refl _) (.cons (BSim.cells (.cons .qc .nil)) (.cons (.refl _) (.cons (.refl _) (.cons (.refl _) (.cons (.refl _) (.cons (.refl _) .nil))))))) (.refl _) hval hdom hent rfl rfl
     · have H := of_false H hb8
       refine W.skip ?_
       refine At.thenC ?_
       obtain ⟨y13, hy14, H⟩ := of_bindO H
       refine W.region env [] [⟨romL (.int .i64 0) (fun (x : Int) => .int .i64 (x)) (fog_next (c0.getD (p0).toNat default)), [], 0, []⟩, ⟨.tup [], [(90000, .cells [roL 8 enc_Node c0]), (90001, .cells [.buf 90002 (y13).length]), (90002, bufL 3 1 enc_Int y13), (90003, .cells [.int .i64 (c2)]), (90004, .cells [roL 9 enc_Report c3]), (90005, .cells [.int .i64 (c4)]), (90006, .cells [.fn (.func 122) [] [.lp 90000 0, .lp 90001 0, .lp 90003 0, .lp 90004 0, .lp 90005 0, .lp 90006 0]])], 0, [90000, 90001, 90002, 90003, 90004, 90005, 90006]⟩] rfl rfl (by kernel_rfl) (.cons rfl .nil) (.free (c_fog_next (c0.getD (p0).toNat default)) (.free (CtrO.sim (CtrO.ren (ih (((fog_next (c0.getD (p0).toNat default)).get y6).getD default) c0 c1 c2 c3 c4 hy14) [(90000, 90000), (90001, 90001), (90002, 90002), (90003, 90003), (90004, 90004), (90005, 90005), (90006, 90006)]) (.cons (.refl _) (.cons (.refl _) (.cons (.refl _) (.cons (.refl _) (.cons (.refl _) (.cons (.refl _) (.cons (.refl _) .nil))))))) (.cons (.refl _) (.cons (BSim.cells (.cons .qc .nil)) (.cons (.refl _) (.cons (.refl _) (.cons (.refl _) (.cons (.refl _) (.cons (.refl _) .nil)))))))) .nil)) (At.keep (ts := []) (ids := [90000, 90001, 90002, 90003, 90004, 90005, 90006]) rfl rfl ?_)
       refine At.oofNormal ?_
       cases H
       exact At.retL env.ty [90000, 90001, 90002, 90003, 90004, 90005, 90006] rfl rfl rfl rfl (.cons (.refl _) (.cons (BSim.cells (.cons .qc .nil)) (.cons (.refl _) (.cons (.refl _) (.cons (.refl _) (.cons (.refl _) (.cons (.refl _) .nil))))))) (.refl _) hval hdom hent rfl rfl
theorem cl_slices_Sort_int (p0 : List Int) {r : List Int} (H : slices_Sort_int_l p0 = some r) : CtrO Tryz.prog 126 [.buf 90000 p0.length] [(90000, bufL 3 1 enc_Int p0)] (.tup []) [(90000, bufL 3 1 enc_Int r)] :=
 sort_ctr (Go.Av.enters_of Tryz.func126 (by kernel_rfl) (c := _) rfl) (Any.slices_Sort_int sort_lays) (Any.slices_Sort_int_none sort_lays) 3 p0 H
theorem c_fog_possible (fuel : Nat) (p0 : (List Node)) (p1 : (List Report)) (p2 : Int) (p3 : Int) {r : (List Int)} (H : fog_possible fuel p0 p1 p2 p3 = some r) : Ctr Tryz.prog 61 [roL 8 enc_Node p0, roL 9 enc_Report p1, .int .i64 (p2), .int .i64 (p3)] (roL 1 enc_Int r) := by
 unfold fog_possible at H
 refine Ctr.of_body (N := 17) Tryz.func61 (by kernel_rfl) (c := _) rfl Tryz.ntmps61 rfl (fun w0 h0 hval => ?_)
 refine W.rg env [4, 5, 6, 7] [4, 5, 6, 7] ?_
 refine W.rg env [4, 5, 6, 7, 9] [4, 5, 6, 7, 9] ?_
 refine W.rg env [4, 5, 6, 7, 9, 10] [4, 5, 6, 7, 9, 10] ?_
 refine W.rg env [9, 10] [4, 5, 6, 7, 9, 10] ?_
 refine W.seq ?_
 refine At.nilOwnCell 9 0 1050 3 1 (e := fun i => enc_Int (([] : List Int).getD i default)) rfl rfl rfl ?_
 obtain ⟨y1, hy2, H⟩ := of_bindO H
 refine W.region env [] [⟨.tup [], [(4, .cells [roL 8 enc_Node p0]), (9, .cells [.buf 1050 (y1).length]), (1050, bufL 3 1 enc_Int y1), (6, .cells [.int .i64 (p2)]), (5, .cells [roL 9 enc_Report p1]), (7, .cells [.int .i64 (p3)]), (10, .cells [.fn (.func 122) [] [.lp 4 0, .lp 9 0, .lp 6 0, .lp 5 0, .lp 7 0, .lp 10 0]])], 0, [4, 9, 1050, 6, 5, 7, 10]⟩] rfl rfl (by kernel_rfl) .nil (.free (CtrO.sim (CtrO.ren (cl_fog_possible_1_l fuel fuel 0 p0 ([] : List Int) p2 p1 p3 hy2) [(90000, 4), (90001, 9), (90002, 1050), (90003, 6), (90004, 5), (90005, 7), (90006, 10)]) (.cons (.refl _) (.cons (.refl _) (.cons (.refl _) (.cons (.refl _) (.cons (.refl _) (.cons (.refl _) (.cons (.refl _) .nil))))))) (.cons (.refl _) (.cons (BSim.cells (.cons .qc .nil)) (.cons (.refl _) (.cons (.refl _) (.cons (.refl _) (.cons (.refl _) (.cons (.refl _) .nil)))))))) .nil) (At.keep (ts := [9]) (ids := [9, 1050]) rfl rfl ?_)
 refine At.thenC ?_
 refine W.seq ?_
 obtain ⟨y3, hy4, H⟩ := of_bindO H
 obtain ⟨hc5, H⟩ := of_must H
 refine W.region env [] [⟨.tup [], [(1050, bufL 3 1 enc_Int y3)], 0, [1050]⟩] rfl rfl (by kernel_rfl) .nil (.free (CtrO.sim (CtrO.ren (cl_slices_Sort_int y1 hy4) [(90000, 1050)]) (.cons .qc .nil) (.cons (.refl _) .nil)) .nil) (At.keep (ts := [9]) (ids := [9, 1050]) rfl rfl ?_)
 refine At.thenC ?_
 refine W.rg env [8] [1050] ?_
 refine W.ret ?_
 cases H
 exact At.ret env.ty rfl rfl (fun q hq => by cases hq; exact (by first | rfl | (simp; done) | omega | (simp; omega))) (.refl _) hval
theorem c_fog_Possible (fuel : Nat) (p0 : (List Node)) (p1 : (List Report)) (p2 : Int) (p3 : Int) {r : ((List Int) × Int)} (H : fog_Possible fuel p0 p1 p2 p3 = some r) : Ctr Tryz.prog 40 [roL 8 enc_Node p0, roL 9 enc_Report p1, .int .i64 (p2), .int .i64 (p3)] (.tup [roL 1 enc_Int r.1, .int .i64 (r.2)]) := by
 unfold fog_Possible at H
 refine Ctr.of_body (N := 24) Tryz.func40 (by kernel_rfl) (c := _) rfl Tryz.ntmps40 rfl (fun w0 h0 hval => ?_)
 refine W.rg env [0, 1, 2, 3] [] ?_
 refine W.seq ?_
 refine W.seq ?_
 obtain ⟨y1, hy2, H⟩ := of_bindO H
 refine W.region env [] [⟨.int .i64 (y1), [], 0, []⟩] rfl rfl rfl .nil (.free (c_fog_asked p0 p1 p2 p3 hy2) .nil) (At.keep (ts := [0, 1, 2, 3, 10]) (ids := []) rfl rfl ?_)
 refine At.thenC ?_
 refine W.rg env [0, 1, 2, 3, 10, 17] [] ?_
 refine W.cond rfl (fun hb3 => ?_) (fun hb3 => ?_)
 · have H := of_true H hb3
   refine W.rg env [8, 9] [] ?_
   refine W.ret ?_
   refine At.rthen ?_
   cases H
   exact At.ret env.ty rfl rfl (fun q hq => by cases hq) (Sim.tupL (.cons (Sim.nil _ _) (.cons (.refl _) .nil))) hval
 · have H := of_false H hb3
   refine W.skip ?_
   refine At.thenC ?_
   refine W.seq ?_
   obtain ⟨y4, hy5, H⟩ := of_bindO H
   refine W.region env [] [⟨roL 1 enc_Int y4, [], 0, []⟩] rfl rfl rfl .nil (.free (c_fog_possible fuel p0 p1 p2 p3 hy5) .nil) (At.keep (ts := [8, 9]) (ids := []) rfl rfl ?_)
   refine At.thenC ?_
   refine W.ret ?_
   cases H
   exact At.ret env.ty rfl rfl (fun q hq => by cases hq) (.refl _) hval
theorem c_fog_CheckRunners (p0 : (List Runner)) {r : Int} (H : fog_CheckRunners p0 = some r) : Ctr Tryz.prog 28 [roL 2 enc_Runner p0] (.int .i64 (r)) := by
 unfold fog_CheckRunners at H
 refine Ctr.of_body (N := 70) Tryz.func28 (by kernel_rfl) (c := _) rfl Tryz.ntmps28 rfl (fun w0 h0 hval => ?_)
 refine W.rg env [0] [] ?_
 refine W.seq ?_
 refine W.rg env [0, 9] [] ?_
 refine W.cond rfl (fun hb1 => ?_) (fun hb1 => ?_)
 · have H := of_true H hb1
   refine W.rg env [2] [] ?_
   refine W.ret ?_
   refine At.rthen ?_
   cases H
   exact At.ret env.ty rfl rfl (fun q hq => by cases hq) (.refl _) hval
 · have H := of_false H hb1
   refine W.skip ?_
   refine At.thenC ?_
   refine W.seq ?_
   refine W.rg env [0, 10, 11, 12] [] ?_
   refine W.block ?_
   refine At.keep (ts := [0, 10, 11, 12]) (ids := []) rfl rfl ?_
   refine W.len (t := 10) rfl (fun (hn2 : p0.length ≤ maxLen) => ?_)
   refine W.rangeGo H (fun i2 (s2 : Unit) => [(0, roL 2 enc_Runner p0), (10, roL 2 enc_Runner p0), (11, .int .i64 (((p0.length : Nat) : Int))), (12, .int .i64 ((i2 : Int)))]) (fun i2 (s2 : Unit) => []) (.cons .q (.cons .q (.cons .qi (.cons .qi .nil)))) .nil (fun k2 i2 s2 hle2 H1 H2 K0 hK2 => ?_)
   refine W.rg env [0, 10, 11, 12, 13] [] ?_
   refine W.seq ?_
   refine W.cond rfl (fun hb3 => ?_) (fun hb3 => ?_)
   · have hi2 : i2 < p0.length := by have := of_decide_eq_true hb3; omega
     have H := H1 hi2
     refine W.skip ?_
     refine At.thenC ?_
     refine W.seq ?_
     refine W.block ?_
     refine W.sr env [] [] [0, 3, 4, 10, 11, 12] [4] rfl rfl rfl (.cons (⟨by omega, by omega⟩ : 0 ≤ (i2 : Int) ∧ (i2 : Int) < ((p0.length : Nat) : Int)) .nil) .nil ?_
     refine W.seq ?_
     obtain ⟨hc4, H⟩ := of_must H
     obtain ⟨hc5, H⟩ := of_must H
     refine W.sr env [] [⟨.bool ((fog_within ((p0.getD i2 default).Id) 1 99)), [], 0, []⟩, ⟨.bool ((fog_within ((((p0.getD i2 default).Districts).length : Nat) : Int) 1 9)), [], 0, []⟩] [0, 4, 10, 11, 12, 42] [4] rfl rfl (by kernel_rfl) (.cons (fun h => h) (.cons (fun h => h) (.cons hc4 (.cons (fun h => h) (.cons hc5 (.cons (fun h => h) (.cons (fun h => h) (.cons (fun h => h) (.cons (fun h => h) (.cons (fun h => h) (.cons (fun h => h) (.cons (fun h => h) (.cons (fun h => h) (.cons (fun hW h => by revert hW h; first | (simp +contextual; done) | grind) (.cons (fun h => by rw [h]; rfl) (.cons (fun h => h) (.cons (fun h => h) (.cons (fun h => h) (.cons (fun h => h) (.cons (fun h => by rw [h]; rfl) .nil)))))))))))))))))))) (.free (c_fog_within ((p0.getD i2 default).Id) 1 99) (.on (fun hW => c_fog_within ((((p0.getD i2 default).Districts).length : Nat) : Int) 1 9) .nil)) ?_
     refine W.cond rfl (fun hb6 => ?_) (fun hb6 => ?_)
     · have H := of_true H hb6
       refine W.rg env [2] [] ?_
       refine W.ret ?_
       refine At.rthen ?_
       refine At.rinb ?_
       refine At.rthen ?_
       refine At.rthen ?_
       refine At.rinb ?_
       refine At.rthen ?_
       cases H
       exact At.ret env.ty rfl rfl (fun q hq => by cases hq) (.refl _) hval
     · have H := of_false H hb6
       refine W.skip ?_
       refine At.thenC ?_
       refine W.rg env [0, 4, 10, 11, 12, 44, 45, 46] [4] ?_
       refine W.block ?_
       refine At.keep (ts := [0, 4, 10, 11, 12, 44, 45, 46]) (ids := [4]) rfl rfl ?_
       refine W.len (t := 44) rfl (fun (hn7 : ((p0.getD i2 default).Districts).length ≤ maxLen) => ?_)
       refine W.rangeGo H (fun i7 (s7 : Unit) => [(0, roL 2 enc_Runner p0), (4, .lp 4 0), (10, roL 2 enc_Runner p0), (11, .int .i64 (((p0.length : Nat) : Int))), (12, .int .i64 ((i2 : Int))), (44, roL 1 enc_Int ((p0.getD i2 default).Districts)), (45, .int .i64 (((((p0.getD i2 default).Districts).length : Nat) : Int))), (46, .int .i64 ((i7 : Int)))]) (fun i7 (s7 : Unit) => [(4, .cells [.int .i64 ((p0.getD i2 default).Id), roL 1 enc_Int ((p0.getD i2 default).Districts)])]) (.cons .q (.cons .q (.cons .q (.cons .qi (.cons .qi (.cons .q (.cons .qi (.cons .qi .nil)))))))) (.cons .q .nil) (fun k7 i7 s7 hle7 H1 H2 K0 hK7 => ?_)
       refine W.rg env [0, 4, 10, 11, 12, 44, 45, 46, 47] [4] ?_
       refine W.seq ?_
       refine W.cond rfl (fun hb8 => ?_) (fun hb8 => ?_)
       · have hi7 : i7 < ((p0.getD i2 default).Districts).length := by have := of_decide_eq_true hb8; omega
         have H := H1 hi7
         refine W.skip ?_
         refine At.thenC ?_
         refine W.seq ?_
         refine W.block ?_
         refine W.sr env [] [] [0, 4, 5, 6, 10, 11, 12, 44, 45, 46] [4] rfl rfl rfl (.cons (⟨by omega, by omega⟩ : 0 ≤ (i7 : Int) ∧ (i7 : Int) < ((((p0.getD i2 default).Districts).length : Nat) : Int)) .nil) .nil ?_
         obtain ⟨hc9, H⟩ := of_must H
         obtain ⟨hc10, H⟩ := of_must H
         refine W.sr env [] [⟨.bool ((fog_isDistrict (((p0.getD i2 default).Districts).getD i7 default))), [], 0, []⟩] [0, 4, 10, 11, 12, 44, 45, 46, 67] [4] rfl rfl rfl (.cons (fun h => h) (.cons (fun h => h) (.cons (fun h => h) (.cons hc9 (.cons (fun h => h) (.cons hc10 (.cons (fun h => h) (.cons (fun h => h) (.cons (fun h => h) (.cons (fun h => h) (.cons (fun h => h) (.cons (fun h => h) (.cons (fun hW h => by revert hW h; first | (simp +contextual; done) | grind) (.cons (fun h => by rw [h]; rfl) .nil)))))))))))))) (.free (c_fog_isDistrict (((p0.getD i2 default).Districts).getD i7 default)) .nil) ?_
         refine W.cond rfl (fun hb11 => ?_) (fun hb11 => ?_)
         · have H := of_true H hb11
           refine W.rg env [2] [] ?_
           refine W.ret ?_
           refine At.rinb ?_
           refine At.rthen ?_
           refine At.rthen ?_
           refine At.rinb ?_
           refine At.rinb ?_
           refine At.rthen ?_
           refine At.rthen ?_
           refine At.rinb ?_
           refine At.rthen ?_
           cases H
           exact At.ret env.ty rfl rfl (fun q hq => by cases hq) (.refl _) hval
         · have H := of_false H hb11
           refine W.skip ?_
           refine At.inb ?_
           refine At.thenC ?_
           refine W.region env [] [] rfl rfl rfl (.cons (by unfold inI; have := hn7; (try unfold maxLen at this); omega) .nil) .nil (At.keep (ts := [0, 4, 10, 11, 12, 44, 45, 46]) (ids := [4]) rfl rfl ?_)
           refine At.thenK (At.keep (ts := [0, 4, 10, 11, 12, 44, 45, 46]) (ids := [4]) rfl rfl ?_)
           exact At.conv (.cons .q (.cons .q (.cons .q (.cons .qi (.cons .qi (.cons .q (.cons .qi (.cons .qi .nil)))))))) (.cons .q .nil) (hK7 hi7 () H)
       · have H := H2 (by have := of_decide_eq_false hb8; omega)
         refine W.exit ?_
         refine At.xthen ?_
         refine At.xthen ?_
         refine At.xhere ?_
         refine At.inb ?_
         refine At.thenC ?_
         refine W.region env [] [] rfl rfl rfl (.cons (by unfold inI; have := hn2; (try unfold maxLen at this); omega) .nil) .nil (At.keep (ts := [0, 10, 11, 12]) (ids := []) rfl rfl ?_)
         refine At.thenK (At.keep (ts := [0, 10, 11, 12]) (ids := []) rfl rfl ?_)
         exact At.conv (.cons .q (.cons .q (.cons .qi (.cons .qi .nil)))) .nil (hK2 hi2 () H)
   · have H := H2 (by have := of_decide_eq_false hb3; omega)
     refine W.exit ?_
     refine At.xthen ?_
     refine At.xthen ?_
     refine At.xhere ?_
     refine At.thenC ?_
     refine W.rg env [2] [] ?_
     refine W.ret ?_
     cases H
     exact At.ret env.ty rfl rfl (fun q hq => by cases hq) (.refl _) hval
theorem c_fog_leaf (p0 : (List Node)) (p1 : (List Runner)) (p2 : Int) {r : (Node × Int)} (H : fog_leaf p0 p1 p2 = some r) : Ctr Tryz.prog 85 [roL 8 enc_Node p0, roL 2 enc_Runner p1, .int .i64 (p2)] (.tup [.agg [.bool (r.1.Test), .int .i64 (r.1.District), .int .i64 (r.1.Minute), .int .i64 (r.1.Limit), .int .i64 (r.1.Yes), .int .i64 (r.1.No), .int .i64 (r.1.Maybe), roL 2 enc_Send r.1.Sends], .int .i64 (r.2)]) := by
 unfold fog_leaf at H
 refine Ctr.of_body (N := 37) Tryz.func85 (by kernel_rfl) (c := _) rfl Tryz.ntmps85 rfl (fun w0 h0 hval => ?_)
 refine W.rg env [0, 1, 2, 6] [6] ?_
 refine W.seq ?_
 refine W.block ?_
 refine W.seq ?_
 obtain ⟨y1, hy2, H⟩ := of_bindO H
 refine W.region env [] [⟨.int .i64 (y1), [], 0, []⟩] rfl rfl rfl .nil (.free (c_fog_CheckPolicy p0 hy2) .nil) (At.keep (ts := [0, 1, 2, 6, 8]) (ids := [6]) rfl rfl ?_)
 refine At.thenC ?_
 refine W.cond rfl (fun hb3 => ?_) (fun hb3 => ?_)
 · have H := of_true H hb3
   refine W.rg env [6, 7] [6] ?_
   refine W.ret ?_
   refine At.rinb ?_
   refine At.rthen ?_
   cases H
   exact At.ret env.ty rfl rfl (fun q hq => by cases hq) (Sim.tupL (.cons (Sim.aggL (.cons (.refl _) (.cons (.refl _) (.cons (.refl _) (.cons (.refl _) (.cons (.refl _) (.cons (.refl _) (.cons (.refl _) (.cons (Sim.nil _ _) .nil))))))))) (.cons (.refl _) .nil))) hval
 · have H := of_false H hb3
   refine W.seq ?_
   obtain ⟨y4, hy5, H⟩ := of_bindO H
   refine W.region env [] [⟨.int .i64 (y4), [], 0, []⟩] rfl rfl rfl .nil (.free (c_fog_CheckRunners p1 hy5) .nil) (At.keep (ts := [0, 2, 6, 13]) (ids := [6]) rfl rfl ?_)
   refine At.thenC ?_
   refine W.cond rfl (fun hb6 => ?_) (fun hb6 => ?_)
   · have H := of_true H hb6
     refine W.rg env [6, 7] [6] ?_
     refine W.ret ?_
     refine At.rinb ?_
     refine At.rthen ?_
     cases H
     exact At.ret env.ty rfl rfl (fun q hq => by cases hq) (Sim.tupL (.cons (Sim.aggL (.cons (.refl _) (.cons (.refl _) (.cons (.refl _) (.cons (.refl _) (.cons (.refl _) (.cons (.refl _) (.cons (.refl _) (.cons (Sim.nil _ _) .nil))))))))) (.cons (.refl _) .nil))) hval
   · have H := of_false H hb6
     obtain ⟨hc7, H⟩ := of_must H
     obtain ⟨hc8, H⟩ := of_must H
     refine W.sr env [] [⟨.bool ((fog_within p2 0 (((p0.length : Nat) : Int) - 1))), [], 0, []⟩] [0, 2, 6, 18] [6] rfl rfl rfl (.cons hc7 (.cons hc8 (.cons (fun h => h) (.cons (fun h => h) (.cons (fun h => h) (.cons (fun h => h) (.cons (fun h => by rw [h]; rfl) .nil))))))) (.free (c_fog_within p2 0 (((p0.length : Nat) : Int) - 1)) .nil) ?_
     refine W.cond rfl (fun hb9 => ?_) (fun hb9 => ?_)
     · have H := of_true H hb9
       refine W.rg env [6, 7] [6] ?_
       refine W.ret ?_
       refine At.rinb ?_
       refine At.rthen ?_
       cases H
       exact At.ret env.ty rfl rfl (fun q hq => by cases hq) (Sim.tupL (.cons (Sim.aggL (.cons (.refl _) (.cons (.refl _) (.cons (.refl _) (.cons (.refl _) (.cons (.refl _) (.cons (.refl _) (.cons (.refl _) (.cons (Sim.nil _ _) .nil))))))))) (.cons (.refl _) .nil))) hval
     · have H := of_false H hb9
       refine W.skip ?_
       refine At.inb ?_
       refine At.thenC ?_
       obtain ⟨hc10, H⟩ := of_must H
       refine W.sr env [] [] [6, 7] [6] rfl rfl rfl (.cons hc10 .nil) .nil ?_
       refine W.ret ?_
       cases H
       exact At.ret env.ty rfl rfl (fun q hq => by cases hq) (.refl _) hval
theorem c_fog_places (p0 : Node) {r : (List Int)} (H : fog_places p0 = some r) : Ctr Tryz.prog 95 [.agg [.bool (p0.Test), .int .i64 (p0.District), .int .i64 (p0.Minute), .int .i64 (p0.Limit), .int .i64 (p0.Yes), .int .i64 (p0.No), .int .i64 (p0.Maybe), roL 2 enc_Send p0.Sends]] (roL 1 enc_Int r) := by
 unfold fog_places at H
 refine Ctr.of_body (N := 25) Tryz.func95 (by kernel_rfl) (c := _) rfl Tryz.ntmps95 rfl (fun w0 h0 hval => ?_)
 refine W.rg env [1] [1] ?_
 refine W.rg env [1, 3] [1] ?_
 refine W.seq ?_
 refine W.rg env [3, 7, 8, 9] [] ?_
 refine W.block ?_
 refine At.nilOwn 3 503 3 1 (e := fun i => enc_Int (([] : List Int).getD i default)) rfl rfl ?_
 refine At.keep (ts := [3, 7, 8, 9]) (ids := [503]) rfl rfl ?_
 refine W.len (t := 7) rfl (fun (hn1 : p0.Sends.length ≤ maxLen) => ?_)
 refine W.rangeGo H (fun i1 (s1 : (List Int)) => [(3, .buf 503 (s1).length), (7, roL 2 enc_Send p0.Sends), (8, .int .i64 (((p0.Sends.length : Nat) : Int))), (9, .int .i64 ((i1 : Int)))]) (fun i1 (s1 : (List Int)) => [(503, bufL 3 1 enc_Int s1)]) (.cons .qb (.cons .q (.cons .qi (.cons .qi .nil)))) (.cons .q .nil) (fun k1 i1 s1 hle1 H1 H2 K0 hK1 => ?_)
 refine W.rg env [3, 7, 8, 9, 10] [503] ?_
 refine W.seq ?_
 refine W.cond rfl (fun hb2 => ?_) (fun hb2 => ?_)
 · have hi1 : i1 < p0.Sends.length := by have := of_decide_eq_true hb2; omega
   have H := H1 hi1
   refine W.skip ?_
   refine At.thenC ?_
   refine W.seq ?_
   refine W.block ?_
   refine W.sr env [] [] [3, 5, 7, 8, 9] [5, 503] rfl rfl rfl (.cons (⟨by omega, by omega⟩ : 0 ≤ (i1 : Int) ∧ (i1 : Int) < ((p0.Sends.length : Nat) : Int)) .nil) .nil ?_
   refine W.rg env [3, 5, 7, 8, 9, 14, 15] [5, 503] ?_
   refine W.block ?_
   refine At.keep (ts := [3, 5, 7, 8, 9, 14, 15]) (ids := [5, 503]) rfl rfl ?_
   obtain ⟨hn3, H⟩ := of_must H
   refine W.rangeGo H (fun i3 (s3 : (List Int)) => [(3, .buf 503 (s3).length), (5, .lp 5 0), (7, roL 2 enc_Send p0.Sends), (8, .int .i64 (((p0.Sends.length : Nat) : Int))), (9, .int .i64 ((i1 : Int))), (14, .int .i64 ((p0.Sends.getD i1 default).Many)), (15, .int .i64 ((i3 : Int)))]) (fun i3 (s3 : (List Int)) => [(5, .cells [.int .i64 ((p0.Sends.getD i1 default).District), .int .i64 ((p0.Sends.getD i1 default).Many)]), (503, bufL 3 1 enc_Int s3)]) (.cons .qb (.cons .q (.cons .q (.cons .qi (.cons .qi (.cons .qi (.cons .qi .nil))))))) (.cons .q (.cons .q .nil)) (fun k3 i3 s3 hle3 H1 H2 K0 hK3 => ?_)
   refine W.rg env [3, 5, 7, 8, 9, 14, 15, 16] [5, 503] ?_
   refine W.seq ?_
   refine W.cond rfl (fun hb4 => ?_) (fun hb4 => ?_)
   · have hi3 : i3 < ((p0.Sends.getD i1 default).Many).toNat := by have := of_decide_eq_true hb4; omega
     have H := H1 hi3
     refine W.skip ?_
     refine At.thenC ?_
     refine W.seq ?_
     refine W.block ?_
     obtain ⟨hc5, H⟩ := of_must H
     refine W.region env [] [] rfl rfl rfl (.cons (⟨by first | rfl | (simp; done) | omega | (simp; omega), by have := hc5; first | simpa using this | (unfold room at this ⊢; simp at this ⊢; omega)⟩) .nil) .nil (At.keep (ts := [3, 5, 7, 8, 9, 14, 15]) (ids := [5, 503]) rfl rfl ?_)
     refine At.convM (.cons (.refl _) (.cons (y := bufL 3 1 enc_Int (s3 ++ ([(p0.Sends.getD i1 default).District] : List Int))) (BSim.seg (Seg.push (Seg.refl enc_Int _) (Seg.lit (f := enc_Int) (sz := 1) ([(p0.Sends.getD i1 default).District] : List Int) rfl rfl (fun _ => rfl)))) .nil)) ?_
     refine At.inb ?_
     refine At.thenC ?_
     refine W.region env [] [] rfl rfl rfl (.cons (by unfold inI; have := hn3; (try unfold maxLen at this); omega) .nil) .nil (At.keep (ts := [3, 5, 7, 8, 9, 14, 15]) (ids := [5, 503]) rfl rfl ?_)
     refine At.thenK (At.keep (ts := [3, 5, 7, 8, 9, 14, 15]) (ids := [5, 503]) rfl rfl ?_)
     exact At.conv (.cons .qb (.cons .q (.cons .q (.cons .qi (.cons .qi (.cons .qi (.cons .qi .nil))))))) (.cons .q (.cons .q .nil)) (hK3 hi3 (s3 ++ ([(p0.Sends.getD i1 default).District] : List Int)) H)
   · have H := H2 (by have := of_decide_eq_false hb4; omega)
     refine W.exit ?_
     refine At.xthen ?_
     refine At.xthen ?_
     refine At.xhere ?_
     refine At.inb ?_
     refine At.thenC ?_
     refine W.region env [] [] rfl rfl rfl (.cons (by unfold inI; have := hn1; (try unfold maxLen at this); omega) .nil) .nil (At.keep (ts := [3, 7, 8, 9]) (ids := [503]) rfl rfl ?_)
     refine At.thenK (At.keep (ts := [3, 7, 8, 9]) (ids := [503]) rfl rfl ?_)
     exact At.conv (.cons .qb (.cons .q (.cons .qi (.cons .qi .nil)))) (.cons .q .nil) (hK1 hi1 s3 H)
 · have H := H2 (by have := of_decide_eq_false hb2; omega)
   refine W.exit ?_
   refine At.xthen ?_
   refine At.xthen ?_
   refine At.xhere ?_
   refine At.thenC ?_
   refine W.rg env [2] [503] ?_
   refine W.ret ?_
   cases H
   exact At.ret env.ty rfl rfl (fun q hq => by cases hq; exact (by first | rfl | (simp; done) | omega | (simp; omega))) (.refl _) hval
theorem c_slices_Index_int (p0 : (List Int)) (p1 : Int) {r : Int} (H : slices_Index_int p0 p1 = some r) : Ctr Tryz.prog 140 [roL 1 enc_Int p0, .int .i64 (p1)] (.int .i64 (r)) := by
 unfold slices_Index_int at H
 refine Ctr.of_body (N := 19) Tryz.func140 (by kernel_rfl) (c := _) rfl Tryz.ntmps140 rfl (fun w0 h0 hval => ?_)
 refine W.rg env [0, 1] [] ?_
 refine W.seq ?_
 refine W.rg env [0, 1, 7, 8] [] ?_
 refine W.block ?_
 refine At.keep (ts := [0, 1, 7, 8]) (ids := []) rfl rfl ?_
 refine W.len (t := 0) rfl (fun (hn1 : p0.length ≤ maxLen) => ?_)
 refine W.rangeGo H (fun i1 (s1 : Unit) => [(0, roL 1 enc_Int p0), (1, .int .i64 (p1)), (7, .int .i64 (((p0.length : Nat) : Int))), (8, .int .i64 ((i1 : Int)))]) (fun i1 (s1 : Unit) => []) (.cons .q (.cons .qi (.cons .qi (.cons .qi .nil)))) .nil (fun k1 i1 s1 hle1 H1 H2 K0 hK1 => ?_)
 refine W.rg env [0, 1, 7, 8, 9] [] ?_
 refine W.seq ?_
 refine W.cond rfl (fun hb2 => ?_) (fun hb2 => ?_)
 · have hi1 : i1 < p0.length := by have := of_decide_eq_true hb2; omega
   have H := H1 hi1
   refine W.skip ?_
   refine At.thenC ?_
   refine W.seq ?_
   refine W.block ?_
   refine W.rg env [0, 1, 5, 7, 8] [] ?_
   refine W.sr env [] [] [0, 1, 5, 7, 8, 16] [] rfl rfl rfl (.cons (⟨by omega, by omega⟩ : 0 ≤ (i1 : Int) ∧ (i1 : Int) < ((p0.length : Nat) : Int)) .nil) .nil ?_
   refine W.cond rfl (fun hb3 => ?_) (fun hb3 => ?_)
   · have H := of_true H hb3
     refine W.rg env [4] [] ?_
     refine W.ret ?_
     refine At.rinb ?_
     refine At.rthen ?_
     refine At.rthen ?_
     refine At.rinb ?_
     refine At.rthen ?_
     cases H
     exact At.ret env.ty rfl rfl (fun q hq => by cases hq) (.refl _) hval
   · have H := of_false H hb3
     refine W.skip ?_
     refine At.inb ?_
     refine At.thenC ?_
     refine W.region env [] [] rfl rfl rfl (.cons (by unfold inI; have := hn1; (try unfold maxLen at this); omega) .nil) .nil (At.keep (ts := [0, 1, 7, 8]) (ids := []) rfl rfl ?_)
     refine At.thenK (At.keep (ts := [0, 1, 7, 8]) (ids := []) rfl rfl ?_)
     exact At.conv (.cons .q (.cons .qi (.cons .qi (.cons .qi .nil)))) .nil (hK1 hi1 () H)
 · have H := H2 (by have := of_decide_eq_false hb2; omega)
   refine W.exit ?_
   refine At.xthen ?_
   refine At.xthen ?_
   refine At.xhere ?_
   refine At.thenC ?_
   refine W.rg env [4] [] ?_
   refine W.ret ?_
   cases H
   exact At.ret env.ty rfl rfl (fun q hq => by cases hq) (.refl _) hval
theorem c_slices_Contains_int (p0 : (List Int)) (p1 : Int) {r : Bool} (H : slices_Contains_int p0 p1 = some r) : Ctr Tryz.prog 98 [roL 1 enc_Int p0, .int .i64 (p1)] (.bool (r)) := by
 unfold slices_Contains_int at H
 refine Ctr.of_body (N := 9) Tryz.func98 (by kernel_rfl) (c := _) rfl Tryz.ntmps98 rfl (fun w0 h0 hval => ?_)
 refine W.rg env [0, 1] [] ?_
 refine W.seq ?_
 obtain ⟨y1, hy2, H⟩ := of_bindO H
 refine W.region env [] [⟨.int .i64 (y1), [], 0, []⟩] rfl rfl rfl .nil (.free (c_slices_Index_int p0 p1 hy2) .nil) (At.keep (ts := [4]) (ids := []) rfl rfl ?_)
 refine At.thenC ?_
 refine W.ret ?_
 cases H
 exact At.ret env.ty rfl rfl (fun q hq => by cases hq) (.refl _) hval
theorem c_fog_giver__may (p0 : fog_giver) (p1 : Int) (p2 : Int) {r : Bool} (H : fog_giver__may p0 p1 p2 = some r) : Ctr Tryz.prog 128 [.rp [roL 2 enc_Runner p0.runners, roL 1 enc_Int p0.places, roL 1 enc_Int p0.of, roL 1 enc_Bool p0.barred], .int .i64 (p1), .int .i64 (p2)] (.bool (r)) := by
 unfold fog_giver__may at H
 refine Ctr.of_body (N := 33) Tryz.func128 (by kernel_rfl) (c := _) rfl Tryz.ntmps128 rfl (fun w0 h0 hval => ?_)
 refine W.rg env [0, 1, 2] [] ?_
 refine W.seq ?_
 obtain ⟨hc1, H⟩ := of_must H
 obtain ⟨hc2, H⟩ := of_must H
 obtain ⟨hc3, H⟩ := of_must H
 obtain ⟨y4, hy5, H⟩ := of_bindO H
 refine W.region env [] [⟨.bool (y4), [], 0, []⟩] rfl rfl (by kernel_rfl) (.cons hc1 (.cons (fun h => h) (.cons (fun h => h) (.cons (fun h => h) (.cons hc2 (.cons (fun h => h) (.cons (fun h => h) (.cons (fun h => h) (.cons (fun h => h) (.cons (fun h => h) (.cons (fun h => h) (.cons (fun h => h) (.cons hc3 (.cons (fun h => h) (.cons (fun h => h) (.cons (fun h => h) (.cons (fun h => h) (.cons (fun h => h) (.cons (fun h => h) .nil))))))))))))))))))) (.on (fun hW => c_slices_Contains_int ((p0.runners.getD (p1).toNat default).Districts) (p0.places.getD (p2).toNat default) (of_true hy5 hW)) .nil) (At.keep (ts := [6]) (ids := []) rfl rfl ?_)
 refine At.thenC ?_
 refine W.ret ?_
 cases H
 exact At.ret env.ty rfl rfl (fun q hq => by cases hq) (.refl _) hval
theorem cl_fog_giver__step_l (fuel : Nat) : ∀ (n : Nat) (p0 : fog_giver) (p1 : Int) (p2 : (List Bool)) {r : (Bool × fog_giver × (List Bool))} (H : fog_giver__step_l fuel n p0 p1 p2 = some r), CtrO Tryz.prog 153 [.lp 90000 0, .int .i64 (p1), .buf 90003 (p2).length] [(90000, .cells [roL 2 enc_Runner p0.runners, roL 1 enc_Int p0.places, .buf 90001 (p0.of).length, .buf 90002 (p0.barred).length]), (90001, bufL 3 1 enc_Int p0.of), (90002, bufL 4 1 enc_Bool p0.barred), (90003, bufL 4 1 enc_Bool p2)] (.bool (r.1)) [(90000, .cells [roL 2 enc_Runner r.2.1.runners, roL 1 enc_Int r.2.1.places, .buf 90001 (r.2.1.of).length, .buf 90002 (r.2.1.barred).length]), (90001, bufL 3 1 enc_Int r.2.1.of), (90002, bufL 4 1 enc_Bool r.2.1.barred), (90003, bufL 4 1 enc_Bool r.2.2)] := by
 intro n; induction n with
 | zero => intro p0 p1 p2 r H; cases H
 | succ n ih =>
   intro p0 p1 p2 r H
   have H : fog_giver__step_l_F fuel (fog_giver__step_l fuel n) p0 p1 p2 = some r := H
   unfold fog_giver__step_l_F at H
   refine CtrL.of_body (N := 58) Tryz.func153 (by kernel_rfl) (c := _) rfl Tryz.ntmps153 rfl rfl (fun w0 h0 ρb hval hdom hent => ?_)
   refine W.rg env [0, 1, 2] [90000, 90001, 90002, 90003] ?_
   refine W.seq ?_
   refine W.rg env [0, 1, 2, 12, 13] [90000, 90001, 90002, 90003] ?_
   refine W.block ?_
   refine At.keep (ts := [0, 1, 2, 12, 13]) (ids := [90000, 90001, 90002, 90003]) rfl rfl ?_
   obtain ⟨hn1, H⟩ := of_must H
   refine W.rangeGo H (fun i1 (s1 : (List Int) × (List Bool) × (List Bool) × (List Runner) × (List Int)) => [(0, .lp 90000 0), (1, .int .i64 (p1)), (2, .buf 90003 (s1.2.2.1).length), (12, .int .i64 (((p0.runners.length : Nat) : Int))), (13, .int .i64 ((i1 : Int)))]) (fun i1 (s1 : (List Int) × (List Bool) × (List Bool) × (List Runner) × (List Int)) => [(90000, .cells [roL 2 enc_Runner s1.2.2.2.1, roL 1 enc_Int s1.2.2.2.2, .buf 90001 (s1.1).length, .buf 90002 (s1.2.1).length]), (90001, bufL 3 1 enc_Int s1.1), (90002, bufL 4 1 enc_Bool s1.2.1), (90003, bufL 4 1 enc_Bool s1.2.2.1)]) (.cons .q (.cons .qi (.cons .qb (.cons .qi (.cons .qi .nil))))) (.cons (BSim.cells (.cons .q (.cons .q (.cons .qc (.cons .qc .nil))))) (.cons .q (.cons .q (.cons .q .nil)))) (fun k1 i1 s1 hle1 H1 H2 K0 hK1 => ?_)
   refine W.rg env [0, 1, 2, 12, 13, 14] [90000, 90001, 90002, 90003] ?_
   refine W.seq ?_
   refine W.cond rfl (fun hb2 => ?_) (fun hb2 => ?_)
   · have hi1 : i1 < p0.runners.length := by have := of_decide_eq_true hb2; omega
     have H := H1 hi1
     refine W.skip ?_
     refine At.thenC ?_
     refine W.seq ?_
     refine W.joinC H (fun (s3 : (List Runner) × (List Int) × (List Int) × (List Bool) × (List Bool)) => [(0, .lp 90000 0), (1, .int .i64 (p1)), (2, .buf 90003 (s3.2.2.2.2).length), (12, .int .i64 (((p0.runners.length : Nat) : Int))), (13, .int .i64 ((i1 : Int)))]) (fun (s3 : (List Runner) × (List Int) × (List Int) × (List Bool) × (List Bool)) => [(90000, .cells [roL 2 enc_Runner s3.1, roL 1 enc_Int s3.2.1, .buf 90001 (s3.2.2.1).length, .buf 90002 (s3.2.2.2.1).length]), (90001, bufL 3 1 enc_Int s3.2.2.1), (90002, bufL 4 1 enc_Bool s3.2.2.2.1), (90003, bufL 4 1 enc_Bool s3.2.2.2.2)]) (fun s3 H => ?_) (fun k3 H hK3 => ?_)
     · refine W.region env [] [] rfl rfl rfl (.cons (by unfold inI; have := hn1; (try unfold maxLen at this); omega) .nil) .nil (At.keep (ts := [0, 1, 2, 12, 13]) (ids := [90000, 90001, 90002, 90003]) rfl rfl ?_)
       refine At.thenK (At.keep (ts := [0, 1, 2, 12, 13]) (ids := [90000, 90001, 90002, 90003]) rfl rfl ?_)
       exact At.conv (.cons .q (.cons .qi (.cons .qb (.cons .qi (.cons .qi .nil))))) (.cons (BSim.cells (.cons .q (.cons .q (.cons .qc (.cons .qc .nil))))) (.cons .q (.cons .q (.cons .q .nil)))) (hK1 hi1 (s3.2.2.1, s3.2.2.2.1, s3.2.2.2.2, s3.1, s3.2.1) H)
     · refine W.block ?_
       refine W.rg env [0, 1, 2, 7, 12, 13] [90000, 90001, 90002, 90003] ?_
       refine W.seq ?_
       refine W.seq ?_
       obtain ⟨hc4, H⟩ := of_must H
       obtain ⟨y5, hy6, H⟩ := of_bindO H
       refine W.region env [] [⟨.bool (y5), [], 0, []⟩] rfl rfl rfl (.cons (⟨by first | rfl | (simp; done) | omega | (simp; omega), hc4⟩) (.cons (⟨by first | rfl | (simp; done) | omega | (simp; omega), (by have := hc4; first | omega | (simp only [List.length_set]; omega) | (simp only [Int.toNat_natCast] at *; omega) | (simp at this ⊢; omega))⟩) (.cons (fun hW => ⟨by first | rfl | (simp; done) | omega | (simp; omega), (by first | rfl | (simp; done) | omega | (simp; omega))⟩) (.cons (fun h => h) (.cons (fun h => h) (.cons (fun h => h) (.cons (fun h => h) (.cons (fun h => by rw [h]; rfl) .nil)))))))) (.on (fun hW => c_fog_giver__may (⟨s1.2.2.2.1, s1.2.2.2.2, s1.1, s1.2.1⟩ : fog_giver) (i1 : Int) p1 (of_true hy6 hW)) .nil) (At.keep (ts := [0, 1, 2, 7, 12, 13, 26]) (ids := [90000, 90001, 90002, 90003]) rfl rfl ?_)
       refine At.thenC ?_
       refine W.cond rfl (fun hb7 => ?_) (fun hb7 => ?_)
       · have H := of_true H hb7
         refine W.exit ?_
         refine At.xthen ?_
         refine At.xhere ?_
         refine At.thenK (At.keep (ts := [0, 1, 2, 12, 13]) (ids := [90000, 90001, 90002, 90003]) rfl rfl ?_)
         exact At.conv (.cons .q (.cons .qi (.cons .qb (.cons .qi (.cons .qi .nil))))) (.cons (BSim.cells (.cons .q (.cons .q (.cons .qc (.cons .qc .nil))))) (.cons .q (.cons .q (.cons .q .nil)))) (hK3 (s1.2.2.2.1, s1.2.2.2.2, s1.1, s1.2.1, s1.2.2.1) H)
       · have H := of_false H hb7
         refine W.skip ?_
         refine At.thenC ?_
         refine W.seq ?_
         obtain ⟨hc8, H⟩ := of_must H
         refine W.region env [] [] rfl rfl rfl (.cons (⟨by first | rfl | (simp; done) | omega | (simp; omega), hc8⟩) (.cons (⟨by first | rfl | (simp; done) | omega | (simp; omega), (by have := hc8; first | omega | (simp only [List.length_set]; omega) | (simp only [Int.toNat_natCast] at *; omega) | (simp at this ⊢; omega))⟩) .nil)) .nil (At.keep (ts := [0, 1, 2, 7, 12, 13]) (ids := [90000, 90001, 90002, 90003]) rfl rfl ?_)
         refine At.convM (.cons (.refl _) (.cons (.refl _) (.cons (.refl _) (.cons (y := bufL 4 1 enc_Bool (s1.2.2.1.set i1 true)) (BSim.seg (Seg.set (Seg.refl enc_Bool _) true rfl)) .nil)))) ?_
         refine At.thenC ?_
         refine W.seq ?_
         obtain ⟨hc9, H⟩ := of_must H
         obtain ⟨hc10, H⟩ := of_must H
         obtain ⟨y11, hy12, H⟩ := of_bindO H
         obtain ⟨hc13, H⟩ := of_must H
         obtain ⟨hc14, H⟩ := of_must H
         refine W.region env [] [⟨.bool (y11.1), [(90000, .cells [roL 2 enc_Runner y11.2.1.runners, roL 1 enc_Int y11.2.1.places, .buf 90001 (y11.2.1.of).length, .buf 90002 (y11.2.1.barred).length]), (90001, bufL 3 1 enc_Int y11.2.1.of), (90002, bufL 4 1 enc_Bool y11.2.1.barred), (90003, bufL 4 1 enc_Bool y11.2.2)], 0, [90000, 90001, 90002, 90003]⟩] rfl rfl (by kernel_rfl) (.cons (⟨by first | rfl | (simp; done) | omega | (simp; omega), hc9⟩) (.cons (⟨by first | rfl | (simp; done) | omega | (simp; omega), (by have := hc9; first | omega | (simp only [List.length_set]; omega) | (simp only [Int.toNat_natCast] at *; omega) | (simp at this ⊢; omega))⟩) (.cons (fun h => h) (.cons (fun h => h) (.cons (fun h => h) (.cons (fun hW => ⟨by first | rfl | (simp; done) | omega | (simp; omega), hc10 hW⟩) (.cons (fun h => h) (.cons (fun h => h) (.cons (fun hW => (⟨by first | rfl | (simp; done) | omega | (simp; omega), (by have := hc10 hW; first | omega | (simp only [List.length_set]; omega) | (simp only [Int.toNat_natCast] at *; omega) | (simp at this ⊢; omega))⟩)) (.cons (fun h => h) (.cons (fun hW => by obtain rfl := lend_off hy12 hW; first | exact .refl _ | exact .q) (.cons (fun hW => by obtain rfl := lend_off hy12 hW; first | exact .refl _ | exact .q) (.cons (fun hW => by obtain rfl := lend_off hy12 hW; first | exact .refl _ | exact .q) (.cons (fun hW => by obtain rfl := lend_off hy12 hW; first | exact .refl _ | exact .q) (.cons (fun h => h) (.cons (fun h => h) (.cons (fun h => h) (.cons (fun h => by rw [h]; rfl) .nil)))))))))))))))))) (.on (fun hW => (CtrO.sim (CtrO.ren (ih (⟨s1.2.2.2.1, s1.2.2.2.2, s1.1, s1.2.1⟩ : fog_giver) (s1.1.getD i1 default) (s1.2.2.1.set i1 true) (of_true hy12 hW)) [(90000, 90000), (90001, 90001), (90002, 90002), (90003, 90003)]) (.cons (.refl _) (.cons (.refl _) (.cons .qc .nil))) (.cons (BSim.cells (.cons (.refl _) (.cons (.refl _) (.cons .qc (.cons .qc .nil))))) (.cons (.refl _) (.cons (.refl _) (.cons (.refl _) .nil)))))) .nil) (At.keep (ts := [0, 1, 2, 7, 12, 13, 49]) (ids := [90000, 90001, 90002, 90003]) rfl rfl ?_)
         refine At.thenC ?_
         refine W.cond rfl (fun hb15 => ?_) (fun hb15 => ?_)
         · have H := of_true H hb15
           refine W.seq ?_
           obtain ⟨hc16, H⟩ := of_must H
           refine W.region env [] [] rfl rfl rfl (.cons (⟨by first | rfl | (simp; done) | omega | (simp; omega), hc16⟩) (.cons (⟨by first | rfl | (simp; done) | omega | (simp; omega), (by have := hc16; first | omega | (simp only [List.length_set]; omega) | (simp only [Int.toNat_natCast] at *; omega) | (simp at this ⊢; omega))⟩) .nil)) .nil (At.keep (ts := []) (ids := [90000, 90001, 90002, 90003]) rfl rfl ?_)
           refine At.convM (.cons (.refl _) (.cons (y := bufL 3 1 enc_Int (y11.2.1.of.set i1 p1)) (BSim.seg (Seg.set (Seg.refl enc_Int _) p1 rfl)) (.cons (.refl _) (.cons (.refl _) .nil)))) ?_
           refine At.thenC ?_
           refine W.rg env [6] [90000, 90001, 90002, 90003] ?_
           refine W.ret ?_
           refine At.rinb ?_
           refine At.rthen ?_
           refine At.rthen ?_
           refine At.rinb ?_
           refine At.rthen ?_
           cases H
           exact At.retL env.ty [90000, 90001, 90002, 90003] rfl rfl rfl rfl (.cons (BSim.cells (.cons (.refl _) (.cons (.refl _) (.cons .qc (.cons .qc .nil))))) (.cons (.refl _) (.cons (.refl _) (.cons (.refl _) .nil)))) (.refl _) hval hdom hent rfl rfl
         · have H := of_false H hb15
           refine W.skip ?_
           refine At.inb ?_
           refine At.thenK (At.keep (ts := [0, 1, 2, 12, 13]) (ids := [90000, 90001, 90002, 90003]) rfl rfl ?_)
           exact At.conv (.cons .q (.cons .qi (.cons .qb (.cons .qi (.cons .qi .nil))))) (.cons (BSim.cells (.cons .q (.cons .q (.cons .qc (.cons .qc .nil))))) (.cons .q (.cons .q (.cons .q .nil)))) (hK3 (y11.2.1.runners, y11.2.1.places, y11.2.1.of, y11.2.1.barred, y11.2.2) H)
   · have H := H2 (by have := of_decide_eq_false hb2; omega)
     refine W.exit ?_
     refine At.xthen ?_
     refine At.xthen ?_
     refine At.xhere ?_
     refine At.thenC ?_
     refine W.rg env [6] [90000, 90001, 90002, 90003] ?_
     refine W.ret ?_
     cases H
     exact At.retL env.ty [90000, 90001, 90002, 90003] rfl rfl rfl rfl (.cons (BSim.cells (.cons (.refl _) (.cons (.refl _) (.cons .qc (.cons .qc .nil))))) (.cons (.refl _) (.cons (.refl _) (.cons (.refl _) .nil)))) (.refl _) hval hdom hent rfl rfl
theorem cl_fog_giver__full_l (fuel : Nat) (p0 : fog_giver) (p1 : Int) {r : (Bool × fog_giver)} (H : fog_giver__full_l fuel p0 p1 = some r) : CtrO Tryz.prog 127 [.lp 90000 0, .int .i64 (p1)] [(90000, .cells [roL 2 enc_Runner p0.runners, roL 1 enc_Int p0.places, .buf 90001 (p0.of).length, .buf 90002 (p0.barred).length]), (90001, bufL 3 1 enc_Int p0.of), (90002, bufL 4 1 enc_Bool p0.barred)] (.bool (r.1)) [(90000, .cells [roL 2 enc_Runner r.2.runners, roL 1 enc_Int r.2.places, .buf 90001 (r.2.of).length, .buf 90002 (r.2.barred).length]), (90001, bufL 3 1 enc_Int r.2.of), (90002, bufL 4 1 enc_Bool r.2.barred)] := by
 unfold fog_giver__full_l at H
 refine CtrL.of_body (N := 45) Tryz.func127 (by kernel_rfl) (c := _) rfl Tryz.ntmps127 rfl rfl (fun w0 h0 ρb hval hdom hent => ?_)
 refine W.rg env [0, 1] [90000, 90001, 90002] ?_
 refine W.rg env [0, 1, 5] [90000, 90001, 90002] ?_
 refine W.seq ?_
 refine W.sr env [] [] [0, 1, 5, 14, 15] [90000, 90001, 90002] rfl rfl rfl (.cons (by first | rfl | (simp; done) | omega | (simp; omega)) .nil) .nil ?_
 refine W.block ?_
 refine At.keep (ts := [0, 1, 5, 14, 15]) (ids := [90000, 90001, 90002]) rfl rfl ?_
 obtain ⟨hn1, H⟩ := of_must H
 refine W.rangeGo H (fun i1 (s1 : (List Int)) => [(0, .lp 90000 0), (1, .int .i64 (p1)), (5, .fn (.func 153) [.lp 90000 0] []), (14, .int .i64 (((p0.of.length : Nat) : Int))), (15, .int .i64 ((i1 : Int)))]) (fun i1 (s1 : (List Int)) => [(90000, .cells [roL 2 enc_Runner p0.runners, roL 1 enc_Int p0.places, .buf 90001 (s1).length, .buf 90002 (p0.barred).length]), (90001, bufL 3 1 enc_Int s1), (90002, bufL 4 1 enc_Bool p0.barred)]) (.cons .q (.cons .qi (.cons .q (.cons .qi (.cons .qi .nil))))) (.cons (BSim.cells (.cons .q (.cons .q (.cons .qc (.cons .qc .nil))))) (.cons .q (.cons .q .nil))) (fun k1 i1 s1 hle1 H1 H2 K0 hK1 => ?_)
 refine W.rg env [0, 1, 5, 14, 15, 16] [90000, 90001, 90002] ?_
 refine W.seq ?_
 refine W.cond rfl (fun hb2 => ?_) (fun hb2 => ?_)
 · have hi1 : i1 < p0.of.length := by have := of_decide_eq_true hb2; omega
   have H := H1 hi1
   refine W.skip ?_
   refine At.thenC ?_
   refine W.seq ?_
   refine W.block ?_
   refine W.rg env [0, 1, 5, 6, 14, 15] [90000, 90001, 90002] ?_
   obtain ⟨hc3, H⟩ := of_must H
   refine W.region env [] [] rfl rfl rfl (.cons (⟨by first | rfl | (simp; done) | omega | (simp; omega), hc3⟩) (.cons (⟨by first | rfl | (simp; done) | omega | (simp; omega), (by have := hc3; first | omega | (simp only [List.length_set]; omega) | (simp only [Int.toNat_natCast] at *; omega) | (simp at this ⊢; omega))⟩) .nil)) .nil (At.keep (ts := [0, 1, 5, 14, 15]) (ids := [90000, 90001, 90002]) rfl rfl ?_)
   refine At.convM (.cons (.refl _) (.cons (y := bufL 3 1 enc_Int (s1.set i1 (-1))) (BSim.seg (Seg.set (Seg.refl enc_Int _) (-1) rfl)) (.cons (.refl _) .nil))) ?_
   refine At.inb ?_
   refine At.thenC ?_
   refine W.region env [] [] rfl rfl rfl (.cons (by unfold inI; have := hn1; (try unfold maxLen at this); omega) .nil) .nil (At.keep (ts := [0, 1, 5, 14, 15]) (ids := [90000, 90001, 90002]) rfl rfl ?_)
   refine At.thenK (At.keep (ts := [0, 1, 5, 14, 15]) (ids := [90000, 90001, 90002]) rfl rfl ?_)
   exact At.conv (.cons .q (.cons .qi (.cons .q (.cons .qi (.cons .qi .nil))))) (.cons (BSim.cells (.cons .q (.cons .q (.cons .qc (.cons .qc .nil))))) (.cons .q (.cons .q .nil))) (hK1 hi1 (s1.set i1 (-1)) H)
 · have H := H2 (by have := of_decide_eq_false hb2; omega)
   refine W.exit ?_
   refine At.xthen ?_
   refine At.xthen ?_
   refine At.xhere ?_
   refine At.thenC ?_
   refine W.seq ?_
   refine W.rg env [0, 5, 7] [90000, 90001, 90002] ?_
   refine W.block ?_
   refine At.keep (ts := [0, 5, 7]) (ids := [90000, 90001, 90002]) rfl rfl ?_
   refine W.loopGo H (fun (s4 : Int × (List Int) × (List Bool) × (List Runner) × (List Int)) => [(0, .lp 90000 0), (5, .fn (.func 153) [.lp 90000 0] []), (7, .int .i64 (s4.1))]) (fun (s4 : Int × (List Int) × (List Bool) × (List Runner) × (List Int)) => [(90000, .cells [roL 2 enc_Runner s4.2.2.2.1, roL 1 enc_Int s4.2.2.2.2, .buf 90001 (s4.2.1).length, .buf 90002 (s4.2.2.1).length]), (90001, bufL 3 1 enc_Int s4.2.1), (90002, bufL 4 1 enc_Bool s4.2.2.1)]) (.cons .q (.cons .q (.cons .qi .nil))) (.cons (BSim.cells (.cons .q (.cons .q (.cons .qc (.cons .qc .nil))))) (.cons .q (.cons .q .nil))) (fun k4 s4 H K0 hK4 => ?_)
   refine W.seq ?_
   refine W.rg env [0, 5, 7, 32] [90000, 90001, 90002] ?_
   refine W.cond rfl (fun hb5 => ?_) (fun hb5 => ?_)
   · have H := of_true H hb5
     refine W.skip ?_
     refine At.thenC ?_
     refine W.seq ?_
     refine W.block ?_
     refine W.seq ?_
     obtain ⟨hc6, H⟩ := of_must H
     obtain ⟨y7, hy8, H⟩ := of_bindO H
     refine W.region env [] [⟨.bool (y7.1), [(90000, .cells [roL 2 enc_Runner y7.2.1.runners, roL 1 enc_Int y7.2.1.places, .buf 90001 (y7.2.1.of).length, .buf 90002 (y7.2.1.barred).length]), (90001, bufL 3 1 enc_Int y7.2.1.of), (90002, bufL 4 1 enc_Bool y7.2.1.barred), (42, bufL 4 1 enc_Bool y7.2.2)], 0, [90000, 90001, 90002, 42]⟩] rfl rfl (by kernel_rfl) (.cons hc6 .nil) (.free (CtrO.sim (CtrO.ren (cl_fog_giver__step_l fuel fuel (⟨s4.2.2.2.1, s4.2.2.2.2, s4.2.1, s4.2.2.1⟩ : fog_giver) s4.1 (List.replicate (((s4.2.2.2.1.length : Nat) : Int)).toNat (false : Bool)) hy8) [(90000, 90000), (90001, 90001), (90002, 90002), (90003, 42)]) (.cons (.refl _) (.cons (.refl _) (.cons .qc .nil))) (.cons (BSim.cells (.cons (.refl _) (.cons (.refl _) (.cons .qc (.cons .qc .nil))))) (.cons (.refl _) (.cons (.refl _) (.cons (BSim.seg (Seg.made (f := enc_Bool) false rfl)) .nil))))) .nil) (At.keep (ts := [0, 5, 7, 44]) (ids := [90000, 90001, 90002]) rfl rfl ?_)
     refine At.thenC ?_
     refine W.cond rfl (fun hb9 => ?_) (fun hb9 => ?_)
     · have H := of_true H hb9
       refine W.rg env [4] [90000, 90001, 90002] ?_
       refine W.ret ?_
       refine At.rinb ?_
       refine At.rthen ?_
       refine At.rthen ?_
       refine At.rinb ?_
       refine At.rthen ?_
       cases H
       exact At.retL env.ty [90000, 90001, 90002] rfl rfl rfl rfl (.cons (BSim.cells (.cons (.refl _) (.cons (.refl _) (.cons .qc (.cons .qc .nil))))) (.cons (.refl _) (.cons (.refl _) .nil))) (.refl _) hval hdom hent rfl rfl
     · have H := of_false H hb9
       refine W.skip ?_
       refine At.inb ?_
       refine At.thenC ?_
       obtain ⟨hc10, H⟩ := of_must H
       refine W.region env [] [] rfl rfl rfl (.cons hc10 .nil) .nil (At.keep (ts := [0, 5, 7]) (ids := [90000, 90001, 90002]) rfl rfl ?_)
       refine At.thenK (At.keep (ts := [0, 5, 7]) (ids := [90000, 90001, 90002]) rfl rfl ?_)
       exact At.conv (.cons .q (.cons .q (.cons .qi .nil))) (.cons (BSim.cells (.cons .q (.cons .q (.cons .qc (.cons .qc .nil))))) (.cons .q (.cons .q .nil))) (hK4 ((s4.1 + 1), y7.2.1.of, y7.2.1.barred, y7.2.1.runners, y7.2.1.places) H)
   · have H := of_false H hb5
     refine W.exit ?_
     refine At.xthen ?_
     refine At.xthen ?_
     refine At.xhere ?_
     refine At.thenC ?_
     refine W.rg env [4] [90000, 90001, 90002] ?_
     refine W.ret ?_
     cases H
     exact At.retL env.ty [90000, 90001, 90002] rfl rfl rfl rfl (.cons (BSim.cells (.cons (.refl _) (.cons (.refl _) (.cons .qc (.cons .qc .nil))))) (.cons (.refl _) (.cons (.refl _) .nil))) (.refl _) hval hdom hent rfl rfl
theorem c_fog_give (fuel : Nat) (p0 : Node) (p1 : (List Runner)) {r : ((List Int) × Bool)} (H : fog_give fuel p0 p1 = some r) : Ctr Tryz.prog 62 [.agg [.bool (p0.Test), .int .i64 (p0.District), .int .i64 (p0.Minute), .int .i64 (p0.Limit), .int .i64 (p0.Yes), .int .i64 (p0.No), .int .i64 (p0.Maybe), roL 2 enc_Send p0.Sends], roL 2 enc_Runner p1] (.tup [roL 1 enc_Int r.1, .bool (r.2)]) := by
 unfold fog_give at H
 refine Ctr.of_body (N := 69) Tryz.func62 (by kernel_rfl) (c := _) rfl Tryz.ntmps62 rfl (fun w0 h0 hval => ?_)
 refine W.rg env [1, 2] [2] ?_
 refine W.scope ?_
 refine W.seq ?_
 obtain ⟨y1, hy2, H⟩ := of_bindO H
 obtain ⟨hc3, H⟩ := of_must H
 obtain ⟨hc4, H⟩ := of_must H
 refine W.region env [] [⟨roL 1 enc_Int y1, [], 0, []⟩] rfl rfl (by kernel_rfl) (.cons hc3 (.cons hc4 .nil)) (.free (c_fog_places p0 hy2) .nil) (At.keep (ts := [1, 6]) (ids := [16, 19, 21]) rfl rfl ?_)
 refine At.convM (.cons (y := bufL 3 1 enc_Int (List.replicate (((p1.length : Nat) : Int)).toNat (0 : Int))) (BSim.seg (Seg.made (f := enc_Int) 0 rfl)) (.cons (y := bufL 4 1 enc_Bool (List.replicate (((p1.length : Nat) : Int)).toNat (false : Bool))) (BSim.seg (Seg.made (f := enc_Bool) false rfl)) (.cons (.refl _) .nil))) ?_
 refine At.thenC ?_
 refine W.seq ?_
 refine W.seq ?_
 obtain ⟨y5, hy6, H⟩ := of_bindO H
 refine W.region env [] [⟨.bool (y5.1), [(21, .cells [roL 2 enc_Runner y5.2.runners, roL 1 enc_Int y5.2.places, .buf 16 (y5.2.of).length, .buf 19 (y5.2.barred).length]), (16, bufL 3 1 enc_Int y5.2.of), (19, bufL 4 1 enc_Bool y5.2.barred)], 0, [21, 16, 19]⟩] rfl rfl (by kernel_rfl) .nil (.free (CtrO.sim (CtrO.ren (cl_fog_giver__full_l fuel (⟨p1, y1, (List.replicate (((p1.length : Nat) : Int)).toNat (0 : Int)), (List.replicate (((p1.length : Nat) : Int)).toNat (false : Bool))⟩ : fog_giver) 0 hy6) [(90000, 21), (90001, 16), (90002, 19)]) (.cons (.refl _) (.cons (.refl _) .nil)) (.cons (BSim.cells (.cons (.refl _) (.cons (.refl _) (.cons .qc (.cons .qc .nil))))) (.cons (.refl _) (.cons (.refl _) .nil)))) .nil) (At.keep (ts := [1, 6, 24]) (ids := [16, 19, 21]) rfl rfl ?_)
 refine At.thenC ?_
 refine W.cond rfl (fun hb7 => ?_) (fun hb7 => ?_)
 · have H := of_true H hb7
   refine W.rg env [4, 5] [] ?_
   refine W.ret ?_
   refine At.rthen ?_
   refine At.rins ?_
   cases H
   exact At.ret env.ty rfl rfl (fun q hq => by cases hq) (Sim.tupL (.cons (Sim.nil _ _) (.cons (.refl _) .nil))) hval
 · have H := of_false H hb7
   refine W.skip ?_
   refine At.thenC ?_
   refine W.rg env [1, 6, 7] [16, 19, 21] ?_
   refine W.seq ?_
   refine W.label ?_
   refine At.thenC ?_
   refine W.seq ?_
   refine W.rg env [1, 6, 7, 29, 30] [16, 19, 21] ?_
   refine W.block ?_
   refine At.nilOwn 7 507 3 1 (e := fun i => enc_Int (([] : List Int).getD i default)) rfl rfl ?_
   refine At.keep (ts := [1, 6, 7, 29, 30]) (ids := [16, 19, 21, 507]) rfl rfl ?_
   obtain ⟨hn8, H⟩ := of_must H
   refine W.rangeGo H (fun i8 (s8 : (List Int) × (List Bool) × (List Int) × (List Runner) × (List Int)) => [(1, roL 2 enc_Runner p1), (6, .lp 21 0), (7, .buf 507 (s8.2.2.1).length), (29, .int .i64 (((y5.2.places.length : Nat) : Int))), (30, .int .i64 ((i8 : Int)))]) (fun i8 (s8 : (List Int) × (List Bool) × (List Int) × (List Runner) × (List Int)) => [(16, bufL 3 1 enc_Int s8.1), (19, bufL 4 1 enc_Bool s8.2.1), (21, .cells [roL 2 enc_Runner s8.2.2.2.1, roL 1 enc_Int s8.2.2.2.2, .buf 16 (s8.1).length, .buf 19 (s8.2.1).length]), (507, bufL 3 1 enc_Int s8.2.2.1)]) (.cons .q (.cons .q (.cons .qb (.cons .qi (.cons .qi .nil))))) (.cons .q (.cons .q (.cons (BSim.cells (.cons .q (.cons .q (.cons .qc (.cons .qc .nil))))) (.cons .q .nil)))) (fun k8 i8 s8 hle8 H1 H2 K0 hK8 => ?_)
   refine W.rg env [1, 6, 7, 29, 30, 31] [16, 19, 21, 507] ?_
   refine W.seq ?_
   refine W.cond rfl (fun hb9 => ?_) (fun hb9 => ?_)
   · have hi8 : i8 < y5.2.places.length := by have := of_decide_eq_true hb9; omega
     have H := H1 hi8
     refine W.skip ?_
     refine At.thenC ?_
     refine W.seq ?_
     refine W.joinC H (fun (s10 : (List Int) × (List Bool) × (List Runner) × (List Int) × (List Int)) => [(1, roL 2 enc_Runner p1), (6, .lp 21 0), (7, .buf 507 (s10.2.2.2.2).length), (29, .int .i64 (((y5.2.places.length : Nat) : Int))), (30, .int .i64 ((i8 : Int)))]) (fun (s10 : (List Int) × (List Bool) × (List Runner) × (List Int) × (List Int)) => [(16, bufL 3 1 enc_Int s10.1), (19, bufL 4 1 enc_Bool s10.2.1), (21, .cells [roL 2 enc_Runner s10.2.2.1, roL 1 enc_Int s10.2.2.2.1, .buf 16 (s10.1).length, .buf 19 (s10.2.1).length]), (507, bufL 3 1 enc_Int s10.2.2.2.2)]) (fun s10 H => ?_) (fun k10 H hK10 => ?_)
     · refine W.region env [] [] rfl rfl rfl (.cons (by unfold inI; have := hn8; (try unfold maxLen at this); omega) .nil) .nil (At.keep (ts := [1, 6, 7, 29, 30]) (ids := [16, 19, 21, 507]) rfl rfl ?_)
       refine At.thenK (At.keep (ts := [1, 6, 7, 29, 30]) (ids := [16, 19, 21, 507]) rfl rfl ?_)
       exact At.conv (.cons .q (.cons .q (.cons .qb (.cons .qi (.cons .qi .nil))))) (.cons .q (.cons .q (.cons (BSim.cells (.cons .q (.cons .q (.cons .qc (.cons .qc .nil))))) (.cons .q .nil)))) (hK8 hi8 (s10.1, s10.2.1, s10.2.2.2.2, s10.2.2.1, s10.2.2.2.1) H)
     · refine W.block ?_
       refine W.rg env [1, 6, 7, 8, 29, 30] [16, 19, 21, 507] ?_
       refine W.rg env [1, 6, 7, 8, 29, 30, 33, 34, 35] [16, 19, 21, 507] ?_
       refine W.block ?_
       refine At.keep (ts := [1, 6, 7, 8, 29, 30, 33, 34, 35]) (ids := [16, 19, 21, 507]) rfl rfl ?_
       refine W.len (t := 33) rfl (fun (hn11 : p1.length ≤ maxLen) => ?_)
       refine W.rangeGo H (fun i11 (s11 : (List Int) × (List Bool) × (List Runner) × (List Int)) => [(1, roL 2 enc_Runner p1), (6, .lp 21 0), (7, .buf 507 (s8.2.2.1).length), (8, .int .i64 ((i8 : Int))), (29, .int .i64 (((y5.2.places.length : Nat) : Int))), (30, .int .i64 ((i8 : Int))), (33, roL 2 enc_Runner p1), (34, .int .i64 (((p1.length : Nat) : Int))), (35, .int .i64 ((i11 : Int)))]) (fun i11 (s11 : (List Int) × (List Bool) × (List Runner) × (List Int)) => [(16, bufL 3 1 enc_Int s11.1), (19, bufL 4 1 enc_Bool s11.2.1), (21, .cells [roL 2 enc_Runner s11.2.2.1, roL 1 enc_Int s11.2.2.2, .buf 16 (s11.1).length, .buf 19 (s11.2.1).length]), (507, bufL 3 1 enc_Int s8.2.2.1)]) (.cons .q (.cons .q (.cons .qb (.cons .qi (.cons .qi (.cons .qi (.cons .q (.cons .qi (.cons .qi .nil))))))))) (.cons .q (.cons .q (.cons (BSim.cells (.cons .q (.cons .q (.cons .qc (.cons .qc .nil))))) (.cons .q .nil)))) (fun k11 i11 s11 hle11 H1 H2 K0 hK11 => ?_)
       refine W.rg env [1, 6, 7, 8, 29, 30, 33, 34, 35, 36] [16, 19, 21, 507] ?_
       refine W.seq ?_
       refine W.cond rfl (fun hb12 => ?_) (fun hb12 => ?_)
       · have hi11 : i11 < p1.length := by have := of_decide_eq_true hb12; omega
         have H := H1 hi11
         refine W.skip ?_
         refine At.thenC ?_
         refine W.seq ?_
         refine W.joinC H (fun (s13 : (List Int) × (List Bool) × (List Runner) × (List Int)) => [(1, roL 2 enc_Runner p1), (6, .lp 21 0), (7, .buf 507 (s8.2.2.1).length), (8, .int .i64 ((i8 : Int))), (29, .int .i64 (((y5.2.places.length : Nat) : Int))), (30, .int .i64 ((i8 : Int))), (33, roL 2 enc_Runner p1), (34, .int .i64 (((p1.length : Nat) : Int))), (35, .int .i64 ((i11 : Int)))]) (fun (s13 : (List Int) × (List Bool) × (List Runner) × (List Int)) => [(16, bufL 3 1 enc_Int s13.1), (19, bufL 4 1 enc_Bool s13.2.1), (21, .cells [roL 2 enc_Runner s13.2.2.1, roL 1 enc_Int s13.2.2.2, .buf 16 (s13.1).length, .buf 19 (s13.2.1).length]), (507, bufL 3 1 enc_Int s8.2.2.1)]) (fun s13 H => ?_) (fun k13 H hK13 => ?_)
         · refine W.region env [] [] rfl rfl rfl (.cons (by unfold inI; have := hn11; (try unfold maxLen at this); omega) .nil) .nil (At.keep (ts := [1, 6, 7, 8, 29, 30, 33, 34, 35]) (ids := [16, 19, 21, 507]) rfl rfl ?_)
           refine At.thenK (At.keep (ts := [1, 6, 7, 8, 29, 30, 33, 34, 35]) (ids := [16, 19, 21, 507]) rfl rfl ?_)
           exact At.conv (.cons .q (.cons .q (.cons .qb (.cons .qi (.cons .qi (.cons .qi (.cons .q (.cons .qi (.cons .qi .nil))))))))) (.cons .q (.cons .q (.cons (BSim.cells (.cons .q (.cons .q (.cons .qc (.cons .qc .nil))))) (.cons .q .nil)))) (hK11 hi11 (s13.1, s13.2.1, s13.2.2.1, s13.2.2.2) H)
         · refine W.block ?_
           refine W.sr env [] [] [1, 6, 7, 8, 9, 10, 29, 30, 33, 34, 35] [10, 16, 19, 21, 507] rfl rfl rfl (.cons (⟨by omega, by omega⟩ : 0 ≤ (i11 : Int) ∧ (i11 : Int) < ((p1.length : Nat) : Int)) .nil) .nil ?_
           refine W.seq ?_
           refine W.seq ?_
           obtain ⟨y14, hy15, H⟩ := of_bindO H
           refine W.region env [] [⟨.bool (y14), [], 0, []⟩] rfl rfl rfl (.cons ⟨by first | rfl | (simp; done) | omega | (simp; omega), (by first | rfl | (simp; done) | omega | (simp; omega))⟩ .nil) (.free (c_fog_giver__may (⟨s11.2.2.1, s11.2.2.2, s11.1, s11.2.1⟩ : fog_giver) (i11 : Int) (i8 : Int) hy15) .nil) (At.keep (ts := [1, 6, 7, 8, 9, 10, 29, 30, 33, 34, 35, 44]) (ids := [10, 16, 19, 21, 507]) rfl rfl ?_)
           refine At.thenC ?_
           refine W.cond rfl (fun hb16 => ?_) (fun hb16 => ?_)
           · have H := of_true H hb16
             refine W.exit ?_
             refine At.xthen ?_
             refine At.xhere ?_
             refine At.thenK (At.keep (ts := [1, 6, 7, 8, 29, 30, 33, 34, 35]) (ids := [16, 19, 21, 507]) rfl rfl ?_)
             exact At.conv (.cons .q (.cons .q (.cons .qb (.cons .qi (.cons .qi (.cons .qi (.cons .q (.cons .qi (.cons .qi .nil))))))))) (.cons .q (.cons .q (.cons (BSim.cells (.cons .q (.cons .q (.cons .qc (.cons .qc .nil))))) (.cons .q .nil)))) (hK13 (s11.1, s11.2.1, s11.2.2.1, s11.2.2.2) H)
           · have H := of_false H hb16
             refine W.skip ?_
             refine At.thenC ?_
             refine W.seq ?_
             obtain ⟨hc17, H⟩ := of_must H
             refine W.region env [] [] rfl rfl rfl (.cons (⟨by first | rfl | (simp; done) | omega | (simp; omega), hc17⟩) (.cons (⟨by first | rfl | (simp; done) | omega | (simp; omega), (by have := hc17; first | omega | (simp only [List.length_set]; omega) | (simp only [Int.toNat_natCast] at *; omega) | (simp at this ⊢; omega))⟩) .nil)) .nil (At.keep (ts := [1, 6, 7, 8, 9, 10, 29, 30, 33, 34, 35]) (ids := [10, 16, 19, 21, 507]) rfl rfl ?_)
             refine At.convM (.cons (.refl _) (.cons (.refl _) (.cons (y := bufL 4 1 enc_Bool (s11.2.1.set i11 true)) (BSim.seg (Seg.set (Seg.refl enc_Bool _) true rfl)) (.cons (.refl _) (.cons (.refl _) .nil))))) ?_
             refine At.thenC ?_
             refine W.seq ?_
             refine W.seq ?_
             obtain ⟨y18, hy19, H⟩ := of_bindO H
             refine W.region env [] [⟨.bool (y18.1), [(21, .cells [roL 2 enc_Runner y18.2.runners, roL 1 enc_Int y18.2.places, .buf 16 (y18.2.of).length, .buf 19 (y18.2.barred).length]), (16, bufL 3 1 enc_Int y18.2.of), (19, bufL 4 1 enc_Bool y18.2.barred)], 0, [21, 16, 19]⟩] rfl rfl (by kernel_rfl) (.cons (by unfold inI; have := hn8; (try unfold maxLen at this); omega) .nil) (.free (CtrO.sim (CtrO.ren (cl_fog_giver__full_l fuel (⟨s11.2.2.1, s11.2.2.2, s11.1, (s11.2.1.set i11 true)⟩ : fog_giver) ((i8 : Int) + 1) hy19) [(90000, 21), (90001, 16), (90002, 19)]) (.cons (.refl _) (.cons (.refl _) .nil)) (.cons (BSim.cells (.cons (.refl _) (.cons (.refl _) (.cons .qc (.cons .qc .nil))))) (.cons (.refl _) (.cons (.refl _) .nil)))) .nil) (At.keep (ts := [1, 6, 7, 8, 9, 10, 29, 30, 33, 34, 35, 54]) (ids := [10, 16, 19, 21, 507]) rfl rfl ?_)
             refine At.thenC ?_
             refine W.cond rfl (fun hb20 => ?_) (fun hb20 => ?_)
             · have H := of_true H hb20
               refine W.seq ?_
               obtain ⟨hc21, H⟩ := of_must H
               refine W.region env [] [] rfl rfl rfl (.cons (⟨by first | rfl | (simp; done) | omega | (simp; omega), by have := hc21; first | simpa using this | (unfold room at this ⊢; simp at this ⊢; omega)⟩) .nil) .nil (At.keep (ts := [1, 6, 7, 29, 30]) (ids := [16, 19, 21, 507]) rfl rfl ?_)
               refine At.convM (.cons (.refl _) (.cons (.refl _) (.cons (.refl _) (.cons (y := bufL 3 1 enc_Int (s8.2.2.1 ++ ([(p1.getD i11 default).Id] : List Int))) (BSim.seg (Seg.push (Seg.refl enc_Int _) (Seg.lit (f := enc_Int) (sz := 1) ([(p1.getD i11 default).Id] : List Int) rfl rfl (fun _ => rfl)))) .nil)))) ?_
               refine At.thenC ?_
               refine W.exit ?_
               refine At.xthen ?_
               refine At.xpast rfl ?_
               refine At.xthen ?_
               refine At.xthen ?_
               refine At.xpast rfl ?_
               refine At.xhere ?_
               refine At.thenK (At.keep (ts := [1, 6, 7, 29, 30]) (ids := [16, 19, 21, 507]) rfl rfl ?_)
               exact At.conv (.cons .q (.cons .q (.cons .qb (.cons .qi (.cons .qi .nil))))) (.cons .q (.cons .q (.cons (BSim.cells (.cons .q (.cons .q (.cons .qc (.cons .qc .nil))))) (.cons .q .nil)))) (hK10 (y18.2.of, y18.2.barred, y18.2.runners, y18.2.places, (s8.2.2.1 ++ ([(p1.getD i11 default).Id] : List Int))) H)
             · have H := of_false H hb20
               refine W.skip ?_
               refine At.thenC ?_
               obtain ⟨hc22, H⟩ := of_must H
               refine W.region env [] [] rfl rfl rfl (.cons (⟨by first | rfl | (simp; done) | omega | (simp; omega), hc22⟩) (.cons (⟨by first | rfl | (simp; done) | omega | (simp; omega), (by have := hc22; first | omega | (simp only [List.length_set]; omega) | (simp only [Int.toNat_natCast] at *; omega) | (simp at this ⊢; omega))⟩) .nil)) .nil (At.keep (ts := [1, 6, 7, 8, 29, 30, 33, 34, 35]) (ids := [16, 19, 21, 507]) rfl rfl ?_)
               refine At.convM (.cons (.refl _) (.cons (y := bufL 4 1 enc_Bool (y18.2.barred.set i11 false)) (BSim.seg (Seg.set (Seg.refl enc_Bool _) false rfl)) (.cons (.refl _) (.cons (.refl _) .nil)))) ?_
               refine At.inb ?_
               refine At.thenK (At.keep (ts := [1, 6, 7, 8, 29, 30, 33, 34, 35]) (ids := [16, 19, 21, 507]) rfl rfl ?_)
               exact At.conv (.cons .q (.cons .q (.cons .qb (.cons .qi (.cons .qi (.cons .qi (.cons .q (.cons .qi (.cons .qi .nil))))))))) (.cons .q (.cons .q (.cons (BSim.cells (.cons .q (.cons .q (.cons .qc (.cons .qc .nil))))) (.cons .q .nil)))) (hK13 (y18.2.of, (y18.2.barred.set i11 false), y18.2.runners, y18.2.places) H)
       · have H := H2 (by have := of_decide_eq_false hb12; omega)
         refine W.exit ?_
         refine At.xthen ?_
         refine At.xthen ?_
         refine At.xhere ?_
         refine At.inb ?_
         refine At.thenK (At.keep (ts := [1, 6, 7, 29, 30]) (ids := [16, 19, 21, 507]) rfl rfl ?_)
         exact At.conv (.cons .q (.cons .q (.cons .qb (.cons .qi (.cons .qi .nil))))) (.cons .q (.cons .q (.cons (BSim.cells (.cons .q (.cons .q (.cons .qc (.cons .qc .nil))))) (.cons .q .nil)))) (hK10 (s11.1, s11.2.1, s11.2.2.1, s11.2.2.2, s8.2.2.1) H)
   · have H := H2 (by have := of_decide_eq_false hb9; omega)
     refine W.exit ?_
     refine At.xthen ?_
     refine At.xthen ?_
     refine At.xhere ?_
     refine At.thenC ?_
     refine W.rg env [4, 5] [507] ?_
     refine W.ret ?_
     refine At.rins ?_
     cases H
     exact At.ret env.ty rfl rfl (fun q hq => by cases hq; exact (by first | rfl | (simp; done) | omega | (simp; omega))) (.refl _) hval
theorem c_fog_Assign (fuel : Nat) (p0 : (List Node)) (p1 : (List Runner)) (p2 : Int) {r : ((List Int) × Int)} (H : fog_Assign fuel p0 p1 p2 = some r) : Ctr Tryz.prog 24 [roL 8 enc_Node p0, roL 2 enc_Runner p1, .int .i64 (p2)] (.tup [roL 1 enc_Int r.1, .int .i64 (r.2)]) := by
 unfold fog_Assign at H
 refine Ctr.of_body (N := 31) Tryz.func24 (by kernel_rfl) (c := _) rfl Tryz.ntmps24 rfl (fun w0 h0 hval => ?_)
 refine W.rg env [0, 1, 2] [] ?_
 refine W.seq ?_
 obtain ⟨y1, hy2, H⟩ := of_bindO H
 refine W.region env [] [⟨.tup [.agg [.bool (y1.1.Test), .int .i64 (y1.1.District), .int .i64 (y1.1.Minute), .int .i64 (y1.1.Limit), .int .i64 (y1.1.Yes), .int .i64 (y1.1.No), .int .i64 (y1.1.Maybe), roL 2 enc_Send y1.1.Sends], .int .i64 (y1.2)], [], 0, []⟩] rfl rfl rfl .nil (.free (c_fog_leaf p0 p1 p2 hy2) .nil) (At.keep (ts := [1, 8, 9]) (ids := [8]) rfl rfl ?_)
 refine At.thenC ?_
 refine W.seq ?_
 refine W.rg env [1, 8, 9, 20] [8] ?_
 refine W.cond rfl (fun hb3 => ?_) (fun hb3 => ?_)
 · have H := of_true H hb3
   refine W.rg env [6, 7] [] ?_
   refine W.ret ?_
   refine At.rthen ?_
   cases H
   exact At.ret env.ty rfl rfl (fun q hq => by cases hq) (Sim.tupL (.cons (Sim.nil _ _) (.cons (.refl _) .nil))) hval
 · have H := of_false H hb3
   refine W.skip ?_
   refine At.thenC ?_
   refine W.seq ?_
   obtain ⟨y4, hy5, H⟩ := of_bindO H
   refine W.region env [] [⟨.tup [roL 1 enc_Int y4.1, .bool (y4.2)], [], 0, []⟩] rfl rfl rfl .nil (.free (c_fog_give fuel y1.1 p1 hy5) .nil) (At.keep (ts := [10, 11]) (ids := []) rfl rfl ?_)
   refine At.thenC ?_
   refine W.seq ?_
   refine W.rg env [10, 29] [] ?_
   refine W.cond rfl (fun hb6 => ?_) (fun hb6 => ?_)
   · have H := of_true H hb6
     refine W.rg env [6, 7] [] ?_
     refine W.ret ?_
     refine At.rthen ?_
     cases H
     exact At.ret env.ty rfl rfl (fun q hq => by cases hq) (Sim.tupL (.cons (Sim.nil _ _) (.cons (.refl _) .nil))) hval
   · have H := of_false H hb6
     refine W.skip ?_
     refine At.thenC ?_
     refine W.rg env [6, 7] [] ?_
     refine W.ret ?_
     cases H
     exact At.ret env.ty rfl rfl (fun q hq => by cases hq) (.refl _) hval
theorem c_fog_sum (p0 : (List Int)) {r : Int} (H : fog_sum p0 = some r) : Ctr Tryz.prog 142 [roL 1 enc_Int p0] (.int .i64 (r)) := by
 unfold fog_sum at H
 refine Ctr.of_body (N := 17) Tryz.func142 (by kernel_rfl) (c := _) rfl Tryz.ntmps142 rfl (fun w0 h0 hval => ?_)
 refine W.rg env [0] [] ?_
 refine W.rg env [0, 3] [] ?_
 refine W.seq ?_
 refine W.rg env [3, 6, 7, 8] [] ?_
 refine W.block ?_
 refine At.keep (ts := [3, 6, 7, 8]) (ids := []) rfl rfl ?_
 refine W.len (t := 6) rfl (fun (hn1 : p0.length ≤ maxLen) => ?_)
 refine W.rangeGo H (fun i1 (s1 : Int) => [(3, .int .i64 (s1)), (6, roL 1 enc_Int p0), (7, .int .i64 (((p0.length : Nat) : Int))), (8, .int .i64 ((i1 : Int)))]) (fun i1 (s1 : Int) => []) (.cons .qi (.cons .q (.cons .qi (.cons .qi .nil)))) .nil (fun k1 i1 s1 hle1 H1 H2 K0 hK1 => ?_)
 refine W.rg env [3, 6, 7, 8, 9] [] ?_
 refine W.seq ?_
 refine W.cond rfl (fun hb2 => ?_) (fun hb2 => ?_)
 · have hi1 : i1 < p0.length := by have := of_decide_eq_true hb2; omega
   have H := H1 hi1
   refine W.skip ?_
   refine At.thenC ?_
   refine W.seq ?_
   refine W.block ?_
   refine W.sr env [] [] [3, 5, 6, 7, 8] [] rfl rfl rfl (.cons (⟨by omega, by omega⟩ : 0 ≤ (i1 : Int) ∧ (i1 : Int) < ((p0.length : Nat) : Int)) .nil) .nil ?_
   obtain ⟨hc3, H⟩ := of_must H
   refine W.region env [] [] rfl rfl rfl (.cons hc3 .nil) .nil (At.keep (ts := [3, 6, 7, 8]) (ids := []) rfl rfl ?_)
   refine At.inb ?_
   refine At.thenC ?_
   refine W.region env [] [] rfl rfl rfl (.cons (by unfold inI; have := hn1; (try unfold maxLen at this); omega) .nil) .nil (At.keep (ts := [3, 6, 7, 8]) (ids := []) rfl rfl ?_)
   refine At.thenK (At.keep (ts := [3, 6, 7, 8]) (ids := []) rfl rfl ?_)
   exact At.conv (.cons .qi (.cons .q (.cons .qi (.cons .qi .nil)))) .nil (hK1 hi1 (s1 + (p0.getD i1 default)) H)
 · have H := H2 (by have := of_decide_eq_false hb2; omega)
   refine W.exit ?_
   refine At.xthen ?_
   refine At.xthen ?_
   refine At.xhere ?_
   refine At.thenC ?_
   refine W.rg env [2] [] ?_
   refine W.ret ?_
   cases H
   exact At.ret env.ty rfl rfl (fun q hq => by cases hq) (.refl _) hval
theorem c_slices_IndexFunc_int (p0 : (List Int)) (p1 : Int → Option Bool) (p1_g : Nat) (p1_a p1_b : List AV) (p1_h : ∀ x0 r, p1 x0 = some r → Ctr Tryz.prog p1_g (p1_a ++ ([.int .i64 (x0)] ++ p1_b)) (.bool (r))) {r : Int} (H : slices_IndexFunc_int p0 p1 = some r) : Ctr Tryz.prog 156 [roL 1 enc_Int p0, .clo (.func p1_g) p1_a p1_b] (.int .i64 (r)) := by
 unfold slices_IndexFunc_int at H
 refine Ctr.of_body (N := 19) Tryz.func156 (by kernel_rfl) (c := _) rfl Tryz.ntmps156 rfl (fun w0 h0 hval => ?_)
 refine W.rg env [0, 1] [] ?_
 refine W.seq ?_
 refine W.rg env [0, 1, 7, 8] [] ?_
 refine W.block ?_
 refine At.keep (ts := [0, 1, 7, 8]) (ids := []) rfl rfl ?_
 refine W.len (t := 0) rfl (fun (hn1 : p0.length ≤ maxLen) => ?_)
 refine W.rangeGo H (fun i1 (s1 : Unit) => [(0, roL 1 enc_Int p0), (1, .clo (.func p1_g) p1_a p1_b), (7, .int .i64 (((p0.length : Nat) : Int))), (8, .int .i64 ((i1 : Int)))]) (fun i1 (s1 : Unit) => []) (.cons .q (.cons .q (.cons .qi (.cons .qi .nil)))) .nil (fun k1 i1 s1 hle1 H1 H2 K0 hK1 => ?_)
 refine W.rg env [0, 1, 7, 8, 9] [] ?_
 refine W.seq ?_
 refine W.cond rfl (fun hb2 => ?_) (fun hb2 => ?_)
 · have hi1 : i1 < p0.length := by have := of_decide_eq_true hb2; omega
   have H := H1 hi1
   refine W.skip ?_
   refine At.thenC ?_
   refine W.seq ?_
   refine W.block ?_
   refine W.rg env [0, 1, 5, 7, 8] [] ?_
   refine W.seq ?_
   obtain ⟨y3, hy4, H⟩ := of_bindO H
   refine W.region env [] [⟨.bool (y3), [], 0, []⟩] rfl rfl rfl (.cons (⟨by omega, by omega⟩ : 0 ≤ (i1 : Int) ∧ (i1 : Int) < ((p0.length : Nat) : Int)) .nil) (.free (p1_h (p0.getD i1 default) _ hy4) .nil) (At.keep (ts := [0, 1, 5, 7, 8, 16]) (ids := []) rfl rfl ?_)
   refine At.thenC ?_
   refine W.cond rfl (fun hb5 => ?_) (fun hb5 => ?_)
   · have H := of_true H hb5
     refine W.rg env [4] [] ?_
     refine W.ret ?_
     refine At.rinb ?_
     refine At.rthen ?_
     refine At.rthen ?_
     refine At.rinb ?_
     refine At.rthen ?_
     cases H
     exact At.ret env.ty rfl rfl (fun q hq => by cases hq) (.refl _) hval
   · have H := of_false H hb5
     refine W.skip ?_
     refine At.inb ?_
     refine At.thenC ?_
     refine W.region env [] [] rfl rfl rfl (.cons (by unfold inI; have := hn1; (try unfold maxLen at this); omega) .nil) .nil (At.keep (ts := [0, 1, 7, 8]) (ids := []) rfl rfl ?_)
     refine At.thenK (At.keep (ts := [0, 1, 7, 8]) (ids := []) rfl rfl ?_)
     exact At.conv (.cons .q (.cons .q (.cons .qi (.cons .qi .nil)))) .nil (hK1 hi1 () H)
 · have H := H2 (by have := of_decide_eq_false hb2; omega)
   refine W.exit ?_
   refine At.xthen ?_
   refine At.xthen ?_
   refine At.xhere ?_
   refine At.thenC ?_
   refine W.rg env [4] [] ?_
   refine W.ret ?_
   cases H
   exact At.ret env.ty rfl rfl (fun q hq => by cases hq) (.refl _) hval
theorem c_slices_ContainsFunc_int (p0 : (List Int)) (p1 : Int → Option Bool) (p1_g : Nat) (p1_a p1_b : List AV) (p1_h : ∀ x0 r, p1 x0 = some r → Ctr Tryz.prog p1_g (p1_a ++ ([.int .i64 (x0)] ++ p1_b)) (.bool (r))) {r : Bool} (H : slices_ContainsFunc_int p0 p1 = some r) : Ctr Tryz.prog 143 [roL 1 enc_Int p0, .clo (.func p1_g) p1_a p1_b] (.bool (r)) := by
 unfold slices_ContainsFunc_int at H
 refine Ctr.of_body (N := 9) Tryz.func143 (by kernel_rfl) (c := _) rfl Tryz.ntmps143 rfl (fun w0 h0 hval => ?_)
 refine W.rg env [0, 1] [] ?_
 refine W.seq ?_
 obtain ⟨y1, hy2, H⟩ := of_bindO H
 refine W.region env [] [⟨.int .i64 (y1), [], 0, []⟩] rfl rfl rfl .nil (.free (c_slices_IndexFunc_int p0 p1 p1_g p1_a p1_b p1_h hy2) .nil) (At.keep (ts := [4]) (ids := []) rfl rfl ?_)
 refine At.thenC ?_
 refine W.ret ?_
 cases H
 exact At.ret env.ty rfl rfl (fun q hq => by cases hq) (.refl _) hval
theorem c_fog_few_1 (p0 : Int) (c0 : (List Int)) {r : Bool} (H : fog_few_1 p0 c0 = some r) : Ctr Tryz.prog 144 [.int .i64 (p0), .rp [roL 1 enc_Int c0]] (.bool (r)) := by
 unfold fog_few_1 at H
 refine Ctr.of_body (N := 7) Tryz.func144 (by kernel_rfl) (c := _) rfl Tryz.ntmps144 rfl (fun w0 h0 hval => ?_)
 refine W.rg env [0, 1] [] ?_
 refine W.seq ?_
 obtain ⟨y1, hy2, H⟩ := of_bindO H
 refine W.region env [] [⟨.bool (y1), [], 0, []⟩] rfl rfl rfl .nil (.free (c_slices_Contains_int c0 p0 hy2) .nil) (At.keep (ts := [3]) (ids := []) rfl rfl ?_)
 refine At.thenC ?_
 refine W.ret ?_
 cases H
 exact At.ret env.ty rfl rfl (fun q hq => by cases hq) (.refl _) hval
theorem c_fog_few (p0 : Node) (p1 : (List Runner)) (p2 : (List Int)) {r : Bool} (H : fog_few p0 p1 p2 = some r) : Ctr Tryz.prog 102 [.agg [.bool (p0.Test), .int .i64 (p0.District), .int .i64 (p0.Minute), .int .i64 (p0.Limit), .int .i64 (p0.Yes), .int .i64 (p0.No), .int .i64 (p0.Maybe), roL 2 enc_Send p0.Sends], roL 2 enc_Runner p1, roL 1 enc_Int p2] (.bool (r)) := by
 unfold fog_few at H
 refine Ctr.of_body (N := 46) Tryz.func102 (by kernel_rfl) (c := _) rfl Tryz.ntmps102 rfl (fun w0 h0 hval => ?_)
 refine W.rg env [1, 3, 5] [3, 5] ?_
 refine W.rg env [1, 3, 5, 7] [3, 5] ?_
 refine W.seq ?_
 refine W.rg env [1, 5, 7, 14, 15, 16] [5] ?_
 refine W.block ?_
 refine At.keep (ts := [1, 5, 7, 14, 15, 16]) (ids := [5]) rfl rfl ?_
 refine W.len (t := 14) rfl (fun (hn1 : p0.Sends.length ≤ maxLen) => ?_)
 refine W.rangeGo H (fun i1 (s1 : Int) => [(1, roL 2 enc_Runner p1), (5, .lp 5 0), (7, .int .i64 (s1)), (14, roL 2 enc_Send p0.Sends), (15, .int .i64 (((p0.Sends.length : Nat) : Int))), (16, .int .i64 ((i1 : Int)))]) (fun i1 (s1 : Int) => [(5, .cells [roL 1 enc_Int p2])]) (.cons .q (.cons .q (.cons .qi (.cons .q (.cons .qi (.cons .qi .nil)))))) (.cons .q .nil) (fun k1 i1 s1 hle1 H1 H2 K0 hK1 => ?_)
 refine W.rg env [1, 5, 7, 14, 15, 16, 17] [5] ?_
 refine W.seq ?_
 refine W.cond rfl (fun hb2 => ?_) (fun hb2 => ?_)
 · have hi1 : i1 < p0.Sends.length := by have := of_decide_eq_true hb2; omega
   have H := H1 hi1
   refine W.skip ?_
   refine At.thenC ?_
   refine W.seq ?_
   refine W.block ?_
   refine W.sr env [] [] [1, 5, 7, 9, 14, 15, 16] [5, 9] rfl rfl rfl (.cons (⟨by omega, by omega⟩ : 0 ≤ (i1 : Int) ∧ (i1 : Int) < ((p0.Sends.length : Nat) : Int)) .nil) .nil ?_
   refine W.seq ?_
   obtain ⟨y3, hy4, H⟩ := of_bindO H
   refine W.region env [] [⟨.bool (y3), [], 0, []⟩] rfl rfl rfl .nil (.free (c_slices_Contains_int p2 ((p0.Sends.getD i1 default).District) hy4) .nil) (At.keep (ts := [1, 5, 7, 9, 14, 15, 16, 23]) (ids := [5, 9]) rfl rfl ?_)
   refine At.thenC ?_
   refine W.cond rfl (fun hb5 => ?_) (fun hb5 => ?_)
   · have H := of_true H hb5
     obtain ⟨y6, hy7, H⟩ := of_bindO H
     refine W.region env [] [⟨.int .i64 (y6), [], 0, []⟩] rfl rfl rfl .nil (.free (Ctr.sim (.cons (Sim.lit (f := enc_Int) ([s1, (p0.Sends.getD i1 default).Many] : List Int) rfl rfl (fun _ => rfl)) .nil) (c_fog_sum ([s1, (p0.Sends.getD i1 default).Many] : List Int) hy7)) .nil) (At.keep (ts := [1, 5, 7, 14, 15, 16]) (ids := [5]) rfl rfl ?_)
     refine At.inb ?_
     refine At.thenC ?_
     refine W.region env [] [] rfl rfl rfl (.cons (by unfold inI; have := hn1; (try unfold maxLen at this); omega) .nil) .nil (At.keep (ts := [1, 5, 7, 14, 15, 16]) (ids := [5]) rfl rfl ?_)
     refine At.thenK (At.keep (ts := [1, 5, 7, 14, 15, 16]) (ids := [5]) rfl rfl ?_)
     exact At.conv (.cons .q (.cons .q (.cons .qi (.cons .q (.cons .qi (.cons .qi .nil)))))) (.cons .q .nil) (hK1 hi1 y6 H)
   · have H := of_false H hb5
     refine W.skip ?_
     refine At.inb ?_
     refine At.thenC ?_
     refine W.region env [] [] rfl rfl rfl (.cons (by unfold inI; have := hn1; (try unfold maxLen at this); omega) .nil) .nil (At.keep (ts := [1, 5, 7, 14, 15, 16]) (ids := [5]) rfl rfl ?_)
     refine At.thenK (At.keep (ts := [1, 5, 7, 14, 15, 16]) (ids := [5]) rfl rfl ?_)
     exact At.conv (.cons .q (.cons .q (.cons .qi (.cons .q (.cons .qi (.cons .qi .nil)))))) (.cons .q .nil) (hK1 hi1 s1 H)
 · have H := H2 (by have := of_decide_eq_false hb2; omega)
   refine W.exit ?_
   refine At.xthen ?_
   refine At.xthen ?_
   refine At.xhere ?_
   refine At.thenC ?_
   refine W.rg env [1, 5, 7, 10] [5] ?_
   refine W.seq ?_
   refine W.rg env [5, 7, 10, 30, 31, 32] [5] ?_
   refine W.block ?_
   refine At.keep (ts := [5, 7, 10, 30, 31, 32]) (ids := [5]) rfl rfl ?_
   refine W.len (t := 30) rfl (fun (hn8 : p1.length ≤ maxLen) => ?_)
   refine W.rangeGo H (fun i8 (s8 : Int) => [(5, .lp 5 0), (7, .int .i64 (s1)), (10, .int .i64 (s8)), (30, roL 2 enc_Runner p1), (31, .int .i64 (((p1.length : Nat) : Int))), (32, .int .i64 ((i8 : Int)))]) (fun i8 (s8 : Int) => [(5, .cells [roL 1 enc_Int p2])]) (.cons .q (.cons .qi (.cons .qi (.cons .q (.cons .qi (.cons .qi .nil)))))) (.cons .q .nil) (fun k8 i8 s8 hle8 H1 H2 K0 hK8 => ?_)
   refine W.rg env [5, 7, 10, 30, 31, 32, 33] [5] ?_
   refine W.seq ?_
   refine W.cond rfl (fun hb9 => ?_) (fun hb9 => ?_)
   · have hi8 : i8 < p1.length := by have := of_decide_eq_true hb9; omega
     have H := H1 hi8
     refine W.skip ?_
     refine At.thenC ?_
     refine W.seq ?_
     refine W.block ?_
     refine W.sr env [] [] [5, 7, 10, 12, 30, 31, 32] [5, 12] rfl rfl rfl (.cons (⟨by omega, by omega⟩ : 0 ≤ (i8 : Int) ∧ (i8 : Int) < ((p1.length : Nat) : Int)) .nil) .nil ?_
     refine W.seq ?_
     obtain ⟨y10, hy11, H⟩ := of_bindO H
     refine W.region env [] [⟨.bool (y10), [], 0, []⟩] rfl rfl rfl .nil (.free (c_slices_ContainsFunc_int ((p1.getD i8 default).Districts) (fun x0 => fog_few_1 x0 p2) 144 [] ([.rp [roL 1 enc_Int p2]]) (fun x0 r h => c_fog_few_1 x0 p2 h) hy11) .nil) (At.keep (ts := [5, 7, 10, 30, 31, 32, 39]) (ids := [5]) rfl rfl ?_)
     refine At.thenC ?_
     refine W.cond rfl (fun hb12 => ?_) (fun hb12 => ?_)
     · have H := of_true H hb12
       obtain ⟨hc13, H⟩ := of_must H
       refine W.region env [] [] rfl rfl rfl (.cons hc13 .nil) .nil (At.keep (ts := [5, 7, 10, 30, 31, 32]) (ids := [5]) rfl rfl ?_)
       refine At.inb ?_
       refine At.thenC ?_
       refine W.region env [] [] rfl rfl rfl (.cons (by unfold inI; have := hn8; (try unfold maxLen at this); omega) .nil) .nil (At.keep (ts := [5, 7, 10, 30, 31, 32]) (ids := [5]) rfl rfl ?_)
       refine At.thenK (At.keep (ts := [5, 7, 10, 30, 31, 32]) (ids := [5]) rfl rfl ?_)
       exact At.conv (.cons .q (.cons .qi (.cons .qi (.cons .q (.cons .qi (.cons .qi .nil)))))) (.cons .q .nil) (hK8 hi8 (s8 + 1) H)
     · have H := of_false H hb12
       refine W.skip ?_
       refine At.inb ?_
       refine At.thenC ?_
       refine W.region env [] [] rfl rfl rfl (.cons (by unfold inI; have := hn8; (try unfold maxLen at this); omega) .nil) .nil (At.keep (ts := [5, 7, 10, 30, 31, 32]) (ids := [5]) rfl rfl ?_)
       refine At.thenK (At.keep (ts := [5, 7, 10, 30, 31, 32]) (ids := [5]) rfl rfl ?_)
       exact At.conv (.cons .q (.cons .qi (.cons .qi (.cons .q (.cons .qi (.cons .qi .nil)))))) (.cons .q .nil) (hK8 hi8 s8 H)
   · have H := H2 (by have := of_decide_eq_false hb9; omega)
     refine W.exit ?_
     refine At.xthen ?_
     refine At.xthen ?_
     refine At.xhere ?_
     refine At.thenC ?_
     refine W.rg env [6] [] ?_
     refine W.ret ?_
     cases H
     exact At.ret env.ty rfl rfl (fun q hq => by cases hq) (.refl _) hval
theorem c_fog_some (p0 : Node) (p1 : (List Runner)) (p2 : (List Int)) {r : Bool} (H : fog_some p0 p1 p2 = some r) : Ctr Tryz.prog 88 [.agg [.bool (p0.Test), .int .i64 (p0.District), .int .i64 (p0.Minute), .int .i64 (p0.Limit), .int .i64 (p0.Yes), .int .i64 (p0.No), .int .i64 (p0.Maybe), roL 2 enc_Send p0.Sends], roL 2 enc_Runner p1, roL 1 enc_Int p2] (.bool (r)) := by
 unfold fog_some at H
 refine Ctr.of_body (N := 39) Tryz.func88 (by kernel_rfl) (c := _) rfl Tryz.ntmps88 rfl (fun w0 h0 hval => ?_)
 refine W.rg env [1, 2, 3] [3] ?_
 refine W.seq ?_
 obtain ⟨hc1, H⟩ := of_must H
 refine W.sr env [] [] [1, 2, 3, 13, 14] [3] rfl rfl rfl (.cons hc1 .nil) .nil ?_
 refine W.block ?_
 refine At.keep (ts := [1, 2, 3, 13, 14]) (ids := [3]) rfl rfl ?_
 obtain ⟨hn2, H⟩ := of_must H
 refine W.rangeGo H (fun i2 (s2 : Unit) => [(1, roL 2 enc_Runner p1), (2, roL 1 enc_Int p2), (3, .lp 3 0), (13, .int .i64 (((1 : Int) * 2 ^ (((p2.length : Nat) : Int) : Int).toNat))), (14, .int .i64 ((i2 : Int)))]) (fun i2 (s2 : Unit) => [(3, .cells [.bool (p0.Test), .int .i64 (p0.District), .int .i64 (p0.Minute), .int .i64 (p0.Limit), .int .i64 (p0.Yes), .int .i64 (p0.No), .int .i64 (p0.Maybe), roL 2 enc_Send p0.Sends])]) (.cons .q (.cons .q (.cons .q (.cons .qi (.cons .qi .nil))))) (.cons .q .nil) (fun k2 i2 s2 hle2 H1 H2 K0 hK2 => ?_)
 refine W.rg env [1, 2, 3, 13, 14, 15] [3] ?_
 refine W.seq ?_
 refine W.cond rfl (fun hb3 => ?_) (fun hb3 => ?_)
 · have hi2 : i2 < (((1 : Int) * 2 ^ (((p2.length : Nat) : Int) : Int).toNat)).toNat := by have := of_decide_eq_true hb3; omega
   have H := H1 hi2
   refine W.skip ?_
   refine At.thenC ?_
   refine W.seq ?_
   refine W.block ?_
   refine W.rg env [1, 2, 3, 7, 13, 14] [3] ?_
   refine W.rg env [1, 2, 3, 7, 8, 13, 14] [3] ?_
   refine W.seq ?_
   refine W.rg env [1, 2, 3, 7, 8, 13, 14, 17, 18, 19] [3] ?_
   refine W.block ?_
   refine At.nilOwn 8 508 3 1 (e := fun i => enc_Int (([] : List Int).getD i default)) rfl rfl ?_
   refine At.keep (ts := [1, 2, 3, 7, 8, 13, 14, 17, 18, 19]) (ids := [3, 508]) rfl rfl ?_
   refine W.len (t := 17) rfl (fun (hn4 : p2.length ≤ maxLen) => ?_)
   refine W.rangeGo H (fun i4 (s4 : (List Int)) => [(1, roL 2 enc_Runner p1), (2, roL 1 enc_Int p2), (3, .lp 3 0), (7, .int .i64 ((i2 : Int))), (8, .buf 508 (s4).length), (13, .int .i64 (((1 : Int) * 2 ^ (((p2.length : Nat) : Int) : Int).toNat))), (14, .int .i64 ((i2 : Int))), (17, roL 1 enc_Int p2), (18, .int .i64 (((p2.length : Nat) : Int))), (19, .int .i64 ((i4 : Int)))]) (fun i4 (s4 : (List Int)) => [(3, .cells [.bool (p0.Test), .int .i64 (p0.District), .int .i64 (p0.Minute), .int .i64 (p0.Limit), .int .i64 (p0.Yes), .int .i64 (p0.No), .int .i64 (p0.Maybe), roL 2 enc_Send p0.Sends]), (508, bufL 3 1 enc_Int s4)]) (.cons .q (.cons .q (.cons .q (.cons .qi (.cons .qb (.cons .qi (.cons .qi (.cons .q (.cons .qi (.cons .qi .nil)))))))))) (.cons .q (.cons .q .nil)) (fun k4 i4 s4 hle4 H1 H2 K0 hK4 => ?_)
   refine W.rg env [1, 2, 3, 7, 8, 13, 14, 17, 18, 19, 20] [3, 508] ?_
   refine W.seq ?_
   refine W.cond rfl (fun hb5 => ?_) (fun hb5 => ?_)
   · have hi4 : i4 < p2.length := by have := of_decide_eq_true hb5; omega
     have H := H1 hi4
     refine W.skip ?_
     refine At.thenC ?_
     refine W.seq ?_
     refine W.block ?_
     refine W.sr env [] [] [1, 2, 3, 7, 8, 9, 10, 13, 14, 17, 18, 19] [3, 508] rfl rfl rfl (.cons (⟨by omega, by omega⟩ : 0 ≤ (i4 : Int) ∧ (i4 : Int) < ((p2.length : Nat) : Int)) .nil) .nil ?_
     obtain ⟨hc6, H⟩ := of_must H
     obtain ⟨hc7, H⟩ := of_must H
     refine W.sr env [] [] [1, 2, 3, 7, 8, 10, 13, 14, 17, 18, 19, 28] [3, 508] rfl rfl rfl (.cons hc6 (.cons hc7 .nil)) .nil ?_
     refine W.cond rfl (fun hb8 => ?_) (fun hb8 => ?_)
     · have H := of_true H hb8
       obtain ⟨hc9, H⟩ := of_must H
       refine W.region env [] [] rfl rfl rfl (.cons (⟨by first | rfl | (simp; done) | omega | (simp; omega), by have := hc9; first | simpa using this | (unfold room at this ⊢; simp at this ⊢; omega)⟩) .nil) .nil (At.keep (ts := [1, 2, 3, 7, 8, 13, 14, 17, 18, 19]) (ids := [3, 508]) rfl rfl ?_)
       refine At.convM (.cons (.refl _) (.cons (y := bufL 3 1 enc_Int (s4 ++ ([(p2.getD i4 default)] : List Int))) (BSim.seg (Seg.push (Seg.refl enc_Int _) (Seg.lit (f := enc_Int) (sz := 1) ([(p2.getD i4 default)] : List Int) rfl rfl (fun _ => rfl)))) .nil)) ?_
       refine At.inb ?_
       refine At.thenC ?_
       refine W.region env [] [] rfl rfl rfl (.cons (by unfold inI; have := hn4; (try unfold maxLen at this); omega) .nil) .nil (At.keep (ts := [1, 2, 3, 7, 8, 13, 14, 17, 18, 19]) (ids := [3, 508]) rfl rfl ?_)
       refine At.thenK (At.keep (ts := [1, 2, 3, 7, 8, 13, 14, 17, 18, 19]) (ids := [3, 508]) rfl rfl ?_)
       exact At.conv (.cons .q (.cons .q (.cons .q (.cons .qi (.cons .qb (.cons .qi (.cons .qi (.cons .q (.cons .qi (.cons .qi .nil)))))))))) (.cons .q (.cons .q .nil)) (hK4 hi4 (s4 ++ ([(p2.getD i4 default)] : List Int)) H)
     · have H := of_false H hb8
       refine W.skip ?_
       refine At.inb ?_
       refine At.thenC ?_
       refine W.region env [] [] rfl rfl rfl (.cons (by unfold inI; have := hn4; (try unfold maxLen at this); omega) .nil) .nil (At.keep (ts := [1, 2, 3, 7, 8, 13, 14, 17, 18, 19]) (ids := [3, 508]) rfl rfl ?_)
       refine At.thenK (At.keep (ts := [1, 2, 3, 7, 8, 13, 14, 17, 18, 19]) (ids := [3, 508]) rfl rfl ?_)
       exact At.conv (.cons .q (.cons .q (.cons .q (.cons .qi (.cons .qb (.cons .qi (.cons .qi (.cons .q (.cons .qi (.cons .qi .nil)))))))))) (.cons .q (.cons .q .nil)) (hK4 hi4 s4 H)
   · have H := H2 (by have := of_decide_eq_false hb5; omega)
     refine W.exit ?_
     refine At.xthen ?_
     refine At.xthen ?_
     refine At.xhere ?_
     refine At.thenC ?_
     refine W.seq ?_
     obtain ⟨y10, hy11, H⟩ := of_bindO H
     refine W.region env [] [⟨.bool (y10), [], 0, []⟩] rfl rfl rfl (.cons (by first | rfl | (simp; done) | omega | (simp; omega)) .nil) (.free (c_fog_few p0 p1 s4 hy11) .nil) (At.keep (ts := [1, 2, 3, 13, 14, 37]) (ids := [3]) rfl rfl ?_)
     refine At.thenC ?_
     refine W.cond rfl (fun hb12 => ?_) (fun hb12 => ?_)
     · have H := of_true H hb12
       refine W.rg env [6] [] ?_
       refine W.ret ?_
       refine At.rinb ?_
       refine At.rthen ?_
       refine At.rthen ?_
       refine At.rinb ?_
       refine At.rthen ?_
       cases H
       exact At.ret env.ty rfl rfl (fun q hq => by cases hq) (.refl _) hval
     · have H := of_false H hb12
       refine W.skip ?_
       refine At.inb ?_
       refine At.thenC ?_
       refine W.region env [] [] rfl rfl rfl (.cons (by unfold inI; have := hn2; (try unfold maxLen at this); omega) .nil) .nil (At.keep (ts := [1, 2, 3, 13, 14]) (ids := [3]) rfl rfl ?_)
       refine At.thenK (At.keep (ts := [1, 2, 3, 13, 14]) (ids := [3]) rfl rfl ?_)
       exact At.conv (.cons .q (.cons .q (.cons .q (.cons .qi (.cons .qi .nil))))) (.cons .q .nil) (hK2 hi2 () H)
 · have H := H2 (by have := of_decide_eq_false hb3; omega)
   refine W.exit ?_
   refine At.xthen ?_
   refine At.xthen ?_
   refine At.xhere ?_
   refine At.thenC ?_
   refine W.rg env [6] [] ?_
   refine W.ret ?_
   cases H
   exact At.ret env.ty rfl rfl (fun q hq => by cases hq) (.refl _) hval
theorem c_slices_Clone_int (p0 : (List Int)) {r : (List Int)} (H : slices_Clone_int p0 = some r) : Ctr Tryz.prog 90 [roL 1 enc_Int p0] (roL 1 enc_Int r) := by
 unfold slices_Clone_int at H
 refine Ctr.of_body (N := 8) Tryz.func90 (by kernel_rfl) (c := _) rfl Tryz.ntmps90 rfl (fun w0 h0 hval => ?_)
 refine W.rg env [0] [] ?_
 refine W.seq ?_
 refine W.rg env [0, 4] [] ?_
 refine W.condNz rfl (fun hz => ?_) ?_
 · obtain rfl : p0 = [] := List.length_eq_zero_iff.1 hz
   obtain ⟨hc1, H⟩ := of_must H
   refine W.rg env [2] [] ?_
   refine W.ret ?_
   refine At.rthen ?_
   cases H
   exact At.ret env.ty rfl rfl (fun q hq => by cases hq) (Sim.nil _ _) hval
 · refine W.skip ?_
   refine At.thenC ?_
   refine W.seq ?_
   obtain ⟨hc1, H⟩ := of_must H
   refine W.region env [5] [] rfl rfl rfl (.cons (⟨by first | rfl | (simp; done) | omega | (simp; omega), by have := hc1; first | simpa using this | (unfold room at this ⊢; simp at this ⊢; omega)⟩) .nil) .nil (At.keep (ts := [2]) (ids := [5]) rfl rfl ?_)
   refine At.convM (.cons (y := bufL 3 1 enc_Int (([] : List Int) ++ p0)) (BSim.seg (Seg.push (Seg.lit (f := enc_Int) (sz := 1) ([] : List Int) rfl rfl (fun _ => rfl)) (Seg.refl enc_Int p0))) .nil) ?_
   refine At.thenC ?_
   refine W.ret ?_
   cases H
   exact At.ret env.ty rfl rfl (fun q hq => by cases hq; exact (by first | rfl | (simp; done) | omega | (simp; omega))) (.refl _) hval
end Go.Sp
