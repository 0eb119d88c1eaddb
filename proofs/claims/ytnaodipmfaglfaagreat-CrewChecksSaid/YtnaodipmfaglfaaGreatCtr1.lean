/- Printed by gen.py. -/
import Derived.Test.YtnaodipmfaglfaaGreatFr4
import Derived.Test.YtnaodipmfaglfaaGreatFr3
import Derived.Test.YtnaodipmfaglfaaGreatProg
import Derived.KernelRfl
import Derived.Shelf.Spec.SlicesInsert
import Derived.Tactics
import Derived.Tactics2
set_option linter.all false
set_option maxRecDepth 100000
set_option maxHeartbeats 1000000
set_option linter.unusedVariables false
namespace Go.Proofs
open Go.Shelf Go.RowKit Go.Lib
theorem wpList_append_runI {P : Program} (w : World) {ops : Array Oper} {rest : List Oper} {o : Oper} {a : Act} {Q : Exit → Act → World → Prop} (hgd : o.guard = none) (d s : Operand) (t t' : TypeId)
   (ho : o.op = .call { callee := .builtin .append, args := #[d, s], argTypes := #[t, t'] }) (v u : Value) (hd : a.eval d = v) (hs : a.eval s = u) {v' : Value} {w' : World}
   (hr : (Builtin.append_ #[t, t'] o.type #[v, u]).run P w = .ok v' w') (h : wpList P ops Q rest (a.put o.dst v') w') : wpList P ops Q (o :: rest) a w :=
 wpList_plain hgd fun _ hK => by
   unfold Oper.wp execOp
   simp only [ho, resolve, invoke, builtin, Sem.run_bind, Sem.run_pure, Result.andThen_ok, List.map_toArray, List.map_cons, List.map_nil, hd, hs, hr]
   exact hK _ _ h
set_option maxHeartbeats 4000000 in
set_option maxRecDepth 100000 in
theorem insw_Tryz_71 : Go.Av.InsW Tryz.prog 71 22 3 99 4 where
 shift := by
   intro g n c i vb vc w W1 W2 hi hroom hc63 hov hcp1 hcp2
   have hz2 : ¬ ((i : Int) = (n : Int)) := by omega
   have hw1 : IntKind.i64.wrap ((i : Int) + 1) = (i : Int) + 1 := by rw [IntKind.wrap_i64]; omega
   have hw2 : IntKind.i64.wrap ((n : Int) + 1) = (n : Int) + 1 := by rw [IntKind.wrap_i64]; omega
   have hb1 : (0 : Int) ≤ (i : Int) + 1 := by omega
   have hin : i ≤ n := by omega
   have htn : ((i : Int) + 1).toNat = i + 1 := by omega
   have hb3 : (i : Int) ≤ (n : Int) + 1 := by omega
   have hb2 : ¬ (c = i + 1) := by omega
   have hb4 : ¬ (c = i) := by omega
   have mixed : Tryz.prog.follows .mixedOrders = true := by kernel_rfl
   go_enter Tryz.func71, Tryz.ntmps71
   go_wp2_with (simp only [hov])
   go_region_law_o (refine step_copy_runI rfl _ _ 22 22 rfl _ _ (by simp [Act.eval, Act.put]) (by simp [Act.eval, Act.put]) (hcp1 _ _ _) ?_)
   go_wp2_with (at_builtin; refine wpList_copy_runI _ rfl _ _ 22 22 rfl _ _ rfl rfl (hcp2 _ _) ?_)
   go_ret
   exact ⟨rfl, rfl⟩
 end_ := by
   intro g n c vb vc w v' w' hnc hc63 hap
   have mixed : Tryz.prog.follows .mixedOrders = true := by kernel_rfl
   by_cases hcn : c = n
   · subst hcn
     go_enter Tryz.func71, Tryz.ntmps71
     go_wp2_with (at_builtin; refine wpList_append_runI _ rfl _ _ 22 22 rfl _ _ rfl rfl (hap _) ?_)
     go_ret
     exact ⟨rfl, rfl⟩
   · go_enter Tryz.func71, Tryz.ntmps71
     go_wp2_with (at_builtin; refine wpList_append_runI _ rfl _ _ 22 22 rfl _ _ rfl rfl (hap _) ?_)
     go_ret
     exact ⟨rfl, rfl⟩
 nil_ := by
   intro vb vc w v' w' hap
   have mixed : Tryz.prog.follows .mixedOrders = true := by kernel_rfl
   go_enter Tryz.func71, Tryz.ntmps71
   go_wp2_with (at_builtin; refine wpList_append_runI _ rfl _ _ 22 22 rfl _ _ rfl rfl (hap _) ?_)
   go_ret
   exact ⟨rfl, rfl⟩
 grow := by
   intro g n c i vb vc g2 c2 w W1 W2 W3 hi hnc hroom hn63 hc2 hc63 hap hcp1 hcp2
   have hz2 : ¬ ((i : Int) = (n : Int)) := by omega
   have hw1 : IntKind.i64.wrap ((i : Int) + 1) = (i : Int) + 1 := by rw [IntKind.wrap_i64]; omega
   have hw2 : IntKind.i64.wrap ((n : Int) + 1) = (n : Int) + 1 := by rw [IntKind.wrap_i64]; omega
   have hb1 : (0 : Int) ≤ (i : Int) + 1 := by omega
   have hin : i ≤ n := by omega
   have htn : ((i : Int) + 1).toNat = i + 1 := by omega
   have hb3 : (i : Int) ≤ (n : Int) + 1 := by omega
   have hw3 : IntKind.i64.wrap ((n : Int) + 1 - (i : Int)) = (n : Int) + 1 - (i : Int) := by rw [IntKind.wrap_i64]; omega
   have hic : i ≤ c := by omega
   have hb2 : ¬ (c2 = i + 1) := by omega
   have hb4 : ¬ (c2 = i) := by omega
   have hb5 : ¬ (c = i) := by omega
   have mixed : Tryz.prog.follows .mixedOrders = true := by kernel_rfl
   go_enter Tryz.func71, Tryz.ntmps71
   go_wp2_with (at_builtin; refine wpList_append_runI _ rfl _ _ 22 3 rfl _ _ rfl rfl (hap _) ?_)
   go_wp2_with (at_builtin; refine wpList_copy_runI _ rfl _ _ 22 22 rfl _ _ rfl rfl (hcp1 _ _) ?_)
   go_region_law_o (refine step_copy_runI rfl _ _ 22 22 rfl _ _ (by simp [Act.eval, Act.put]) (by simp [Act.eval, Act.put]) (hcp2 _ _ _) ?_)
   go_wp2
   go_ret
   exact ⟨rfl, rfl⟩
theorem insv_Tryz_71 (w : World) (a b : Value) (h : (Extern.SlicesOverlaps.overlaps #[22, 22] #[4] #[a, b]).run Tryz.prog w = .ok (.bool false) w) : (callFunc 99 #[a, b]).run Tryz.prog w = .ok (.value (.bool false)) w := by
 rw [run_callFunc_extern Tryz.func99 (by kernel_rfl) (by kernel_rfl) (by kernel_rfl) (e := Extern.SlicesOverlaps.overlaps #[22, 22] #[4]) (by kernel_rfl), h]
 rfl
end Go.Proofs
namespace Go.Sp
open Go Go.Av Go.Proofs
def enc_Int (x : Int) : List AV := [.int .i64 (x)]
def enc_ListInt (x : (List Int)) : List AV := [roL 1 enc_Int x]
def enc_Task (x : Task) : List AV := [.int .i64 (x.Lamp), .int .i64 (x.Place), .int .i64 (x.At), .int .i64 (x.Serve)]
def enc_Hand (x : Hand) : List AV := [.int .i64 (x.Id), .int .i64 (x.From), .int .i64 (x.To)]
def enc_Range (x : Range) : List AV := [.int .i64 (x.Lo), .int .i64 (x.Hi)]
def enc_ListRange (x : (List Range)) : List AV := [roL 2 enc_Range x]
def tids : List Nat := [3, 4, 22, 23, 24, 26, 27, 28, 31, 41, 43, 45, 55, 57, 61, 67, 84, 89, 93, 103, 106, 126, 135]
def Γ : Tys := [(3, ⟨.int .i64, [.int .i64 0], 1, 8⟩),
 (4, ⟨.bool, [.bool false], 1, 1⟩),
 (22, ⟨.slice 41, [.slice none 0 0], 1, 24⟩),
 (23, ⟨.slice 106, [.slice none 0 0], 1, 24⟩),
 (24, ⟨.slice 43, [.slice none 0 0], 1, 24⟩),
 (26, ⟨.struct [(0, 22), (1, 23), (2, 24)], [.slice none 0 0, .slice none 0 0, .slice none 0 0], 3, 72⟩),
 (27, ⟨.slice 28, [.slice none 0 0], 1, 24⟩),
 (28, ⟨.slice 3, [.slice none 0 0], 1, 24⟩),
 (31, ⟨.int .i64, [.int .i64 0], 1, 8⟩),
 (41, ⟨.struct [(0, 3), (1, 3), (2, 3), (3, 3)], [.int .i64 0, .int .i64 0, .int .i64 0, .int .i64 0], 4, 32⟩),
 (43, ⟨.struct [(0, 3), (1, 3), (2, 3)], [.int .i64 0, .int .i64 0, .int .i64 0], 3, 24⟩),
 (45, ⟨.struct [(0, 41), (4, 43), (7, 3), (8, 3)], [.int .i64 0, .int .i64 0, .int .i64 0, .int .i64 0, .int .i64 0, .int .i64 0, .int .i64 0, .int .i64 0, .int .i64 0], 9, 72⟩),
 (55, ⟨.ptr 61, [.pointer none], 1, 8⟩),
 (57, ⟨.func, [.nilFunc], 1, 8⟩),
 (61, ⟨.struct [(0, 26), (3, 28)], [.slice none 0 0, .slice none 0 0, .slice none 0 0, .slice none 0 0], 4, 96⟩),
 (67, ⟨.struct [(0, 55), (1, 27)], [.pointer none, .slice none 0 0], 2, 32⟩),
 (84, ⟨.func, [.nilFunc], 1, 8⟩),
 (89, ⟨.func, [.nilFunc], 1, 8⟩),
 (93, ⟨.struct [(0, 3), (1, 3)], [.int .i64 0, .int .i64 0], 2, 16⟩),
 (103, ⟨.func, [.nilFunc], 1, 8⟩),
 (106, ⟨.slice 93, [.slice none 0 0], 1, 24⟩),
 (126, ⟨.func, [.nilFunc], 1, 8⟩),
 (135, ⟨.int .u64, [.int .u64 0], 1, 8⟩)]
theorem Γ_ok : mkTys Tryz.prog tids = some Γ := by kernel_rfl
theorem env : Env Tryz.prog Γ := ⟨mkTys_sound Γ_ok, by decide +kernel, by kernel_rfl⟩
def sort_ren : Go.Shelf.Ren where
 f := fun x => match x with
   | 189 => 95
   | 125 => 105
   | 257 => 104
   | 128 => 119
   | 129 => 120
   | 294 => 110
   | 295 => 111
   | 296 => 112
   | 297 => 113
   | 298 => 114
   | 299 => 115
   | 216 => 116
   | 300 => 117
   | 301 => 118
   | 328 => 123
   | 329 => 124
   | 330 => 125
   | 331 => 126
   | 332 => 127
   | 215 => 106
   | 343 => 128
   | n => n
 t := fun x => match x with
   | 28 => 28
   | 3 => 3
   | 46 => 135
   | 0 => 0
   | 51 => 147
   | 53 => 149
   | 4 => 4
   | 183 => 140
   | 182 => 139
   | 131 => 99
   | 5 => 5
   | 9 => 9
   | 218 => 151
   | 222 => 155
   | 228 => 157
   | 229 => 158
   | n => n
 g := fun x => x
theorem sort_lays : Go.Proofs.Lays.n189 Tryz.prog sort_ren :=
 {
   mixed := by kernel_rfl,
   f125 := Tryz.func105.trans (congrArg some (by kernel_rfl)),
   f128 := Tryz.func119.trans (congrArg some (by kernel_rfl)),
   f129 := Tryz.func120.trans (congrArg some (by kernel_rfl)),
   f189 := Tryz.func95.trans (congrArg some (by kernel_rfl)),
   f215 := Tryz.func106.trans (congrArg some (by kernel_rfl)),
   f216 := Tryz.func116.trans (congrArg some (by kernel_rfl)),
   f257 := Tryz.func104.trans (congrArg some (by kernel_rfl)),
   f294 := Tryz.func110.trans (congrArg some (by kernel_rfl)),
   f295 := Tryz.func111.trans (congrArg some (by kernel_rfl)),
   f296 := Tryz.func112.trans (congrArg some (by kernel_rfl)),
   f297 := Tryz.func113.trans (congrArg some (by kernel_rfl)),
   f298 := Tryz.func114.trans (congrArg some (by kernel_rfl)),
   f299 := Tryz.func115.trans (congrArg some (by kernel_rfl)),
   f300 := Tryz.func117.trans (congrArg some (by kernel_rfl)),
   f301 := Tryz.func118.trans (congrArg some (by kernel_rfl)),
   f328 := Tryz.func123.trans (congrArg some (by kernel_rfl)),
   f329 := Tryz.func124.trans (congrArg some (by kernel_rfl)),
   f330 := Tryz.func125.trans (congrArg some (by kernel_rfl)),
   f331 := Tryz.func126.trans (congrArg some (by kernel_rfl)),
   f332 := Tryz.func127.trans (congrArg some (by kernel_rfl)),
   f343 := Tryz.func128.trans (congrArg some (by kernel_rfl)),
   t0 := Tryz.underlying0,
   a0 := Tryz.isAgg0,
   z0 := Tryz.sizeOf0,
   v0 := Tryz.zeroValue0,
   t3 := Tryz.underlying3,
   a3 := Tryz.isAgg3,
   z3 := Tryz.sizeOf3,
   v3 := Tryz.zeroValue3,
   t4 := Tryz.underlying4,
   a4 := Tryz.isAgg4,
   z4 := Tryz.sizeOf4,
   v4 := Tryz.zeroValue4,
   t5 := Tryz.underlying5,
   a5 := Tryz.isAgg5,
   z5 := Tryz.sizeOf5,
   v5 := Tryz.zeroValue5,
   t9 := Tryz.underlying9,
   a9 := Tryz.isAgg9,
   z9 := Tryz.sizeOf9,
   v9 := Tryz.zeroValue9,
   t28 := Tryz.underlying28,
   a28 := Tryz.isAgg28,
   z28 := Tryz.sizeOf28,
   v28 := Tryz.zeroValue28,
   t46 := Tryz.underlying135,
   a46 := Tryz.isAgg135,
   z46 := Tryz.sizeOf135,
   v46 := Tryz.zeroValue135,
   t51 := Tryz.underlying147,
   a51 := Tryz.isAgg147,
   z51 := Tryz.sizeOf147,
   v51 := Tryz.zeroValue147,
   t53 := Tryz.underlying149,
   a53 := Tryz.isAgg149,
   z53 := Tryz.sizeOf149,
   v53 := Tryz.zeroValue149,
   t131 := Tryz.underlying99,
   a131 := Tryz.isAgg99,
   z131 := Tryz.sizeOf99,
   v131 := Tryz.zeroValue99,
   t182 := Tryz.underlying139,
   a182 := Tryz.isAgg139,
   z182 := Tryz.sizeOf139,
   v182 := Tryz.zeroValue139,
   t183 := Tryz.underlying140,
   a183 := Tryz.isAgg140,
   z183 := Tryz.sizeOf140,
   v183 := Tryz.zeroValue140,
   t218 := Tryz.underlying151,
   a218 := Tryz.isAgg151,
   z218 := Tryz.sizeOf151,
   v218 := Tryz.zeroValue151,
   t222 := Tryz.underlying155,
   a222 := Tryz.isAgg155,
   z222 := Tryz.sizeOf155,
   v222 := Tryz.zeroValue155,
   t228 := Tryz.underlying157,
   a228 := Tryz.isAgg157,
   z228 := Tryz.sizeOf157,
   v228 := Tryz.zeroValue157,
   t229 := Tryz.underlying158,
   a229 := Tryz.isAgg158,
   z229 := Tryz.sizeOf158,
   v229 := Tryz.zeroValue158 }
theorem c_crew_in (p0 : Int) (p1 : Int) (p2 : Int) : Ctr Tryz.prog 59 [.int .i64 (p0), .int .i64 (p1), .int .i64 (p2)] (.bool ((crew_in p0 p1 p2))) := by
 obtain ⟨r, H⟩ : ∃ r, crew_in p0 p1 p2 = r := ⟨_, rfl⟩
 rw [H]
 unfold crew_in at H
 refine Ctr.of_body (N := 15) Tryz.func59 (by kernel_rfl) (c := _) rfl Tryz.ntmps59 rfl (fun w0 h0 hval => ?_)
 refine W.rg env [0, 1, 2] [] ?_
 refine W.sr env [] [] [6] [] rfl rfl rfl (.cons (fun h => h) (.cons (fun h => h) (.cons (fun h => h) .nil))) .nil ?_
 refine W.ret ?_
 cases H
 exact At.ret env.ty rfl rfl (fun q hq => by cases hq) (.refl _) hval
theorem c_crew_isTravel (p0 : (List (List Range))) {r : Bool} (H : crew_isTravel p0 = some r) : Ctr Tryz.prog 79 [roL 1 enc_ListRange p0] (.bool (r)) := by
 unfold crew_isTravel at H
 refine Ctr.of_body (N := 124) Tryz.func79 (by kernel_rfl) (c := _) rfl Tryz.ntmps79 rfl (fun w0 h0 hval => ?_)
 refine W.rg env [0] [] ?_
 refine W.seq ?_
 refine W.rg env [0, 12] [] ?_
 refine W.cond rfl (fun hb1 => ?_) (fun hb1 => ?_)
 · have H := of_true H hb1
   refine W.rg env [2] [] ?_
   refine W.ret ?_
   refine At.rthen ?_
   cases H
   exact At.ret env.ty rfl rfl (fun q hq => by cases hq) (.refl _) hval
 · have H := of_false H hb1
   refine W.skip ?_
   refine At.thenC ?_
   refine W.seq ?_
   refine W.rg env [0, 13, 14, 15] [] ?_
   refine W.block ?_
   refine At.keep (ts := [0, 13, 14, 15]) (ids := []) rfl rfl ?_
   refine W.len (t := 13) rfl (fun (hn2 : p0.length ≤ maxLen) => ?_)
   refine W.rangeGo H (fun i2 (s2 : Unit) => [(0, roL 1 enc_ListRange p0), (13, roL 1 enc_ListRange p0), (14, .int .i64 (((p0.length : Nat) : Int))), (15, .int .i64 ((i2 : Int)))]) (fun i2 (s2 : Unit) => []) (.cons .q (.cons .q (.cons .qi (.cons .qi .nil)))) .nil (fun k2 i2 s2 hle2 H1 H2 K0 hK2 => ?_)
   refine W.rg env [0, 13, 14, 15, 16] [] ?_
   refine W.seq ?_
   refine W.cond rfl (fun hb3 => ?_) (fun hb3 => ?_)
   · have hi2 : i2 < p0.length := by have := of_decide_eq_true hb3; omega
     have H := H1 hi2
     refine W.skip ?_
     refine At.thenC ?_
     refine W.seq ?_
     refine W.block ?_
     refine W.sr env [] [] [0, 3, 4, 13, 14, 15] [] rfl rfl rfl (.cons (⟨by omega, by omega⟩ : 0 ≤ (i2 : Int) ∧ (i2 : Int) < ((p0.length : Nat) : Int)) .nil) .nil ?_
     refine W.seq ?_
     obtain ⟨hc4, H⟩ := of_must H
     refine W.sr env [] [] [0, 4, 13, 14, 15, 32] [] rfl rfl rfl (.cons hc4 (.cons (fun h => h) (.cons (fun h => h) (.cons (fun h => h) (.cons (fun h => h) (.cons (fun h => h) (.cons (fun h => by rw [h]; rfl) .nil))))))) .nil ?_
     refine W.cond rfl (fun hb5 => ?_) (fun hb5 => ?_)
     · have H := of_true H hb5
       refine W.rg env [2] [] ?_
       refine W.ret ?_
       refine At.rthen ?_
       refine At.rinb ?_
       refine At.rthen ?_
       refine At.rthen ?_
       refine At.rinb ?_
       refine At.rthen ?_
       cases H
       exact At.ret env.ty rfl rfl (fun q hq => by cases hq) (.refl _) hval
     · have H := of_false H hb5
       refine W.skip ?_
       refine At.thenC ?_
       refine W.rg env [0, 13, 14, 15, 33, 34, 35] [] ?_
       refine W.block ?_
       refine At.keep (ts := [0, 13, 14, 15, 33, 34, 35]) (ids := []) rfl rfl ?_
       refine W.len (t := 33) rfl (fun (hn6 : (p0.getD i2 default).length ≤ maxLen) => ?_)
       refine W.rangeGo H (fun i6 (s6 : Unit) => [(0, roL 1 enc_ListRange p0), (13, roL 1 enc_ListRange p0), (14, .int .i64 (((p0.length : Nat) : Int))), (15, .int .i64 ((i2 : Int))), (33, roL 2 enc_Range (p0.getD i2 default)), (34, .int .i64 ((((p0.getD i2 default).length : Nat) : Int))), (35, .int .i64 ((i6 : Int)))]) (fun i6 (s6 : Unit) => []) (.cons .q (.cons .q (.cons .qi (.cons .qi (.cons .q (.cons .qi (.cons .qi .nil))))))) .nil (fun k6 i6 s6 hle6 H1 H2 K0 hK6 => ?_)
       refine W.rg env [0, 13, 14, 15, 33, 34, 35, 36] [] ?_
       refine W.seq ?_
       refine W.cond rfl (fun hb7 => ?_) (fun hb7 => ?_)
       · have hi6 : i6 < (p0.getD i2 default).length := by have := of_decide_eq_true hb7; omega
         have H := H1 hi6
         refine W.skip ?_
         refine At.thenC ?_
         refine W.seq ?_
         refine W.block ?_
         refine W.sr env [] [] [0, 6, 13, 14, 15, 33, 34, 35] [6] rfl rfl rfl (.cons (⟨by omega, by omega⟩ : 0 ≤ (i6 : Int) ∧ (i6 : Int) < (((p0.getD i2 default).length : Nat) : Int)) .nil) .nil ?_
         refine W.sr env [] [⟨.bool ((crew_in (((p0.getD i2 default).getD i6 default).Lo) 0 (((p0.getD i2 default).getD i6 default).Hi))), [], 0, []⟩] [0, 13, 14, 15, 33, 34, 35, 49] [] rfl rfl rfl (.cons (fun h => h) (.cons (fun h => h) (.cons (fun h => by rw [h]; rfl) .nil))) (.free (c_crew_in (((p0.getD i2 default).getD i6 default).Lo) 0 (((p0.getD i2 default).getD i6 default).Hi)) .nil) ?_
         refine W.cond rfl (fun hb8 => ?_) (fun hb8 => ?_)
         · have H := of_true H hb8
           refine W.rg env [2] [] ?_
           refine W.ret ?_
           refine At.rinb ?_
           refine At.rthen ?_
           refine At.rthen ?_
           refine At.rinb ?_
           refine At.rinb ?_
           refine At.rthen ?_
           refine At.rthen ?_
           refine At.rinb ?_
           refine At.rthen ?_
           cases H
           exact At.ret env.ty rfl rfl (fun q hq => by cases hq) (.refl _) hval
         · have H := of_false H hb8
           refine W.skip ?_
           refine At.inb ?_
           refine At.thenC ?_
           refine W.region env [] [] rfl rfl rfl (.cons (by unfold inI; have := hn6; (try unfold maxLen at this); omega) .nil) .nil (At.keep (ts := [0, 13, 14, 15, 33, 34, 35]) (ids := []) rfl rfl ?_)
           refine At.thenK (At.keep (ts := [0, 13, 14, 15, 33, 34, 35]) (ids := []) rfl rfl ?_)
           exact At.conv (.cons .q (.cons .q (.cons .qi (.cons .qi (.cons .q (.cons .qi (.cons .qi .nil))))))) .nil (hK6 hi6 () H)
       · have H := H2 (by have := of_decide_eq_false hb7; omega)
         refine W.exit ?_
         refine At.xthen ?_
         refine At.xthen ?_
         refine At.xhere ?_
         refine At.inb ?_
         refine At.thenC ?_
         refine W.region env [] [] rfl rfl rfl (.cons (by unfold inI; have := hn2; (try unfold maxLen at this); omega) .nil) .nil (At.keep (ts := [0, 13, 14, 15]) (ids := []) rfl rfl ?_)
         refine At.thenK (At.keep (ts := [0, 13, 14, 15]) (ids := []) rfl rfl ?_)
         exact At.conv (.cons .q (.cons .q (.cons .qi (.cons .qi .nil)))) .nil (hK2 hi2 () H)
   · have H := H2 (by have := of_decide_eq_false hb3; omega)
     refine W.exit ?_
     refine At.xthen ?_
     refine At.xthen ?_
     refine At.xhere ?_
     refine At.thenC ?_
     refine W.seq ?_
     refine W.rg env [0, 53, 54] [] ?_
     refine W.block ?_
     refine At.keep (ts := [0, 53, 54]) (ids := []) rfl rfl ?_
     refine W.len (t := 0) rfl (fun (hn9 : p0.length ≤ maxLen) => ?_)
     refine W.rangeGo H (fun i9 (s9 : Unit) => [(0, roL 1 enc_ListRange p0), (53, .int .i64 (((p0.length : Nat) : Int))), (54, .int .i64 ((i9 : Int)))]) (fun i9 (s9 : Unit) => []) (.cons .q (.cons .qi (.cons .qi .nil))) .nil (fun k9 i9 s9 hle9 H1 H2 K0 hK9 => ?_)
     refine W.rg env [0, 53, 54, 55] [] ?_
     refine W.seq ?_
     refine W.cond rfl (fun hb10 => ?_) (fun hb10 => ?_)
     · have hi9 : i9 < p0.length := by have := of_decide_eq_true hb10; omega
       have H := H1 hi9
       refine W.skip ?_
       refine At.thenC ?_
       refine W.seq ?_
       refine W.block ?_
       refine W.rg env [0, 7, 53, 54] [] ?_
       refine W.rg env [0, 7, 53, 54, 58, 59] [] ?_
       refine W.block ?_
       refine At.keep (ts := [0, 7, 53, 54, 58, 59]) (ids := []) rfl rfl ?_
       refine W.len (t := 0) rfl (fun (hn11 : p0.length ≤ maxLen) => ?_)
       refine W.rangeGo H (fun i11 (s11 : Unit) => [(0, roL 1 enc_ListRange p0), (7, .int .i64 ((i9 : Int))), (53, .int .i64 (((p0.length : Nat) : Int))), (54, .int .i64 ((i9 : Int))), (58, .int .i64 (((p0.length : Nat) : Int))), (59, .int .i64 ((i11 : Int)))]) (fun i11 (s11 : Unit) => []) (.cons .q (.cons .qi (.cons .qi (.cons .qi (.cons .qi (.cons .qi .nil)))))) .nil (fun k11 i11 s11 hle11 H1 H2 K0 hK11 => ?_)
       refine W.rg env [0, 7, 53, 54, 58, 59, 60] [] ?_
       refine W.seq ?_
       refine W.cond rfl (fun hb12 => ?_) (fun hb12 => ?_)
       · have hi11 : i11 < p0.length := by have := of_decide_eq_true hb12; omega
         have H := H1 hi11
         refine W.skip ?_
         refine At.thenC ?_
         refine W.seq ?_
         refine W.block ?_
         refine W.rg env [0, 7, 8, 53, 54, 58, 59] [] ?_
         refine W.rg env [0, 7, 8, 53, 54, 58, 59, 63, 64] [] ?_
         refine W.block ?_
         refine At.keep (ts := [0, 7, 8, 53, 54, 58, 59, 63, 64]) (ids := []) rfl rfl ?_
         refine W.len (t := 0) rfl (fun (hn13 : p0.length ≤ maxLen) => ?_)
         refine W.rangeGo H (fun i13 (s13 : Unit) => [(0, roL 1 enc_ListRange p0), (7, .int .i64 ((i9 : Int))), (8, .int .i64 ((i11 : Int))), (53, .int .i64 (((p0.length : Nat) : Int))), (54, .int .i64 ((i9 : Int))), (58, .int .i64 (((p0.length : Nat) : Int))), (59, .int .i64 ((i11 : Int))), (63, .int .i64 (((p0.length : Nat) : Int))), (64, .int .i64 ((i13 : Int)))]) (fun i13 (s13 : Unit) => []) (.cons .q (.cons .qi (.cons .qi (.cons .qi (.cons .qi (.cons .qi (.cons .qi (.cons .qi (.cons .qi .nil))))))))) .nil (fun k13 i13 s13 hle13 H1 H2 K0 hK13 => ?_)
         refine W.rg env [0, 7, 8, 53, 54, 58, 59, 63, 64, 65] [] ?_
         refine W.seq ?_
         refine W.cond rfl (fun hb14 => ?_) (fun hb14 => ?_)
         · have hi13 : i13 < p0.length := by have := of_decide_eq_true hb14; omega
           have H := H1 hi13
           refine W.skip ?_
           refine At.thenC ?_
           refine W.seq ?_
           refine W.block ?_
           refine W.rg env [0, 7, 8, 9, 53, 54, 58, 59, 63, 64] [] ?_
           obtain ⟨hc15, H⟩ := of_must H
           obtain ⟨hc16, H⟩ := of_must H
           obtain ⟨hc17, H⟩ := of_must H
           obtain ⟨hc18, H⟩ := of_must H
           obtain ⟨hc19, H⟩ := of_must H
           obtain ⟨hc20, H⟩ := of_must H
           obtain ⟨hc21, H⟩ := of_must H
           obtain ⟨hc22, H⟩ := of_must H
           refine W.sr env [] [] [0, 7, 8, 53, 54, 58, 59, 63, 64, 120] [] rfl rfl (by first | rfl | kernel_rfl) (.cons (⟨by omega, by omega⟩ : 0 ≤ (i9 : Int) ∧ (i9 : Int) < ((p0.length : Nat) : Int)) (.cons hc15 (.cons (⟨by omega, by omega⟩ : 0 ≤ (i9 : Int) ∧ (i9 : Int) < ((p0.length : Nat) : Int)) (.cons hc16 (.cons (⟨by omega, by omega⟩ : 0 ≤ (i11 : Int) ∧ (i11 : Int) < ((p0.length : Nat) : Int)) (.cons hc17 (.cons hc18 (.cons (fun _ => (⟨by omega, by omega⟩ : 0 ≤ (i9 : Int) ∧ (i9 : Int) < ((p0.length : Nat) : Int))) (.cons (fun h => h) (.cons (fun h => h) (.cons (fun h => h) (.cons hc19 (.cons (fun h => h) (.cons (fun h => h) (.cons (fun h => h) (.cons (fun h => h) (.cons (fun _ => (⟨by omega, by omega⟩ : 0 ≤ (i9 : Int) ∧ (i9 : Int) < ((p0.length : Nat) : Int))) (.cons (fun h => h) (.cons (fun h => h) (.cons (fun h => h) (.cons hc20 (.cons (fun h => h) (.cons (fun h => h) (.cons (fun h => h) (.cons (fun h => h) (.cons (fun _ => (⟨by omega, by omega⟩ : 0 ≤ (i11 : Int) ∧ (i11 : Int) < ((p0.length : Nat) : Int))) (.cons (fun h => h) (.cons (fun h => h) (.cons (fun h => h) (.cons hc21 (.cons (fun h => h) (.cons (fun h => h) (.cons (fun h => h) (.cons (fun h => h) (.cons hc22 (.cons (fun h => h) (.cons (fun h => h) (.cons (fun h => h) (.cons (fun h => h) (.cons (fun h => by rw [h]; rfl) .nil)))))))))))))))))))))))))))))))))))))))) .nil ?_
           refine W.cond rfl (fun hb23 => ?_) (fun hb23 => ?_)
           · have H := of_true H hb23
             refine W.rg env [2] [] ?_
             refine W.ret ?_
             refine At.rinb ?_
             refine At.rthen ?_
             refine At.rthen ?_
             refine At.rinb ?_
             refine At.rinb ?_
             refine At.rthen ?_
             refine At.rthen ?_
             refine At.rinb ?_
             refine At.rinb ?_
             refine At.rthen ?_
             refine At.rthen ?_
             refine At.rinb ?_
             refine At.rthen ?_
             cases H
             exact At.ret env.ty rfl rfl (fun q hq => by cases hq) (.refl _) hval
           · have H := of_false H hb23
             refine W.skip ?_
             refine At.inb ?_
             refine At.thenC ?_
             refine W.region env [] [] rfl rfl rfl (.cons (by unfold inI; have := hn13; (try unfold maxLen at this); omega) .nil) .nil (At.keep (ts := [0, 7, 8, 53, 54, 58, 59, 63, 64]) (ids := []) rfl rfl ?_)
             refine At.thenK (At.keep (ts := [0, 7, 8, 53, 54, 58, 59, 63, 64]) (ids := []) rfl rfl ?_)
             exact At.conv (.cons .q (.cons .qi (.cons .qi (.cons .qi (.cons .qi (.cons .qi (.cons .qi (.cons .qi (.cons .qi .nil))))))))) .nil (hK13 hi13 () H)
         · have H := H2 (by have := of_decide_eq_false hb14; omega)
           refine W.exit ?_
           refine At.xthen ?_
           refine At.xthen ?_
           refine At.xhere ?_
           refine At.inb ?_
           refine At.thenC ?_
           refine W.region env [] [] rfl rfl rfl (.cons (by unfold inI; have := hn11; (try unfold maxLen at this); omega) .nil) .nil (At.keep (ts := [0, 7, 53, 54, 58, 59]) (ids := []) rfl rfl ?_)
           refine At.thenK (At.keep (ts := [0, 7, 53, 54, 58, 59]) (ids := []) rfl rfl ?_)
           exact At.conv (.cons .q (.cons .qi (.cons .qi (.cons .qi (.cons .qi (.cons .qi .nil)))))) .nil (hK11 hi11 () H)
       · have H := H2 (by have := of_decide_eq_false hb12; omega)
         refine W.exit ?_
         refine At.xthen ?_
         refine At.xthen ?_
         refine At.xhere ?_
         refine At.inb ?_
         refine At.thenC ?_
         refine W.region env [] [] rfl rfl rfl (.cons (by unfold inI; have := hn9; (try unfold maxLen at this); omega) .nil) .nil (At.keep (ts := [0, 53, 54]) (ids := []) rfl rfl ?_)
         refine At.thenK (At.keep (ts := [0, 53, 54]) (ids := []) rfl rfl ?_)
         exact At.conv (.cons .q (.cons .qi (.cons .qi .nil))) .nil (hK9 hi9 () H)
     · have H := H2 (by have := of_decide_eq_false hb10; omega)
       refine W.exit ?_
       refine At.xthen ?_
       refine At.xthen ?_
       refine At.xhere ?_
       refine At.thenC ?_
       refine W.rg env [2] [] ?_
       refine W.ret ?_
       cases H
       exact At.ret env.ty rfl rfl (fun q hq => by cases hq) (.refl _) hval
theorem c_crew_isMinute (p0 : Int) : Ctr Tryz.prog 73 [.int .i64 (p0)] (.bool ((crew_isMinute p0))) := by
 obtain ⟨r, H⟩ : ∃ r, crew_isMinute p0 = r := ⟨_, rfl⟩
 rw [H]
 unfold crew_isMinute at H
 refine Ctr.of_body (N := 5) Tryz.func73 (by kernel_rfl) (c := _) rfl Tryz.ntmps73 rfl (fun w0 h0 hval => ?_)
 refine W.rg env [0] [] ?_
 refine W.sr env [] [⟨.bool ((crew_in p0 0 1439)), [], 0, []⟩] [2] [] rfl rfl rfl .nil (.free (c_crew_in p0 0 1439) .nil) ?_
 refine W.ret ?_
 cases H
 exact At.ret env.ty rfl rfl (fun q hq => by cases hq) (.refl _) hval
theorem c_crew_CheckTask (p0 : Task) : Ctr Tryz.prog 28 [.agg [.int .i64 (p0.Lamp), .int .i64 (p0.Place), .int .i64 (p0.At), .int .i64 (p0.Serve)]] (.int .i64 ((crew_CheckTask p0))) := by
 obtain ⟨r, H⟩ : ∃ r, crew_CheckTask p0 = r := ⟨_, rfl⟩
 rw [H]
 unfold crew_CheckTask at H
 refine Ctr.of_body (N := 25) Tryz.func28 (by kernel_rfl) (c := _) rfl Tryz.ntmps28 rfl (fun w0 h0 hval => ?_)
 refine W.rg env [1] [1] ?_
 refine W.seq ?_
 refine W.sr env [] [⟨.bool ((crew_in p0.Lamp 1 999)), [], 0, []⟩, ⟨.bool ((crew_in p0.Place 0 11)), [], 0, []⟩, ⟨.bool ((crew_isMinute p0.At)), [], 0, []⟩, ⟨.bool ((crew_in p0.Serve 1 120)), [], 0, []⟩] [24] [] rfl rfl rfl (.cons (fun h => h) (.cons (fun h => h) (.cons (fun h => h) (.cons (fun h => by rw [h]; rfl) (.cons (fun h => h) (.cons (fun h => h) (.cons (fun h => h) (.cons (fun h => by rw [h]; rfl) (.cons (fun h => h) (.cons (fun h => h) (.cons (fun h => h) (.cons (fun h => by rw [h]; rfl) .nil)))))))))))) (.free (c_crew_in p0.Lamp 1 999) (.on (fun hW => c_crew_in p0.Place 0 11) (.on (fun hW => c_crew_isMinute p0.At) (.on (fun hW => c_crew_in p0.Serve 1 120) .nil)))) ?_
 refine W.cond rfl (fun hb1 => ?_) (fun hb1 => ?_)
 · have H := of_true H hb1
   refine W.rg env [2] [] ?_
   refine W.ret ?_
   refine At.rthen ?_
   cases H
   exact At.ret env.ty rfl rfl (fun q hq => by cases hq) (.refl _) hval
 · have H := of_false H hb1
   refine W.skip ?_
   refine At.thenC ?_
   refine W.rg env [2] [] ?_
   refine W.ret ?_
   cases H
   exact At.ret env.ty rfl rfl (fun q hq => by cases hq) (.refl _) hval
theorem c_crew_CheckHand (p0 : Hand) : Ctr Tryz.prog 30 [.agg [.int .i64 (p0.Id), .int .i64 (p0.From), .int .i64 (p0.To)]] (.int .i64 ((crew_CheckHand p0))) := by
 obtain ⟨r, H⟩ : ∃ r, crew_CheckHand p0 = r := ⟨_, rfl⟩
 rw [H]
 unfold crew_CheckHand at H
 refine Ctr.of_body (N := 21) Tryz.func30 (by kernel_rfl) (c := _) rfl Tryz.ntmps30 rfl (fun w0 h0 hval => ?_)
 refine W.rg env [1] [1] ?_
 refine W.seq ?_
 refine W.sr env [] [⟨.bool ((crew_in p0.Id 1 99)), [], 0, []⟩, ⟨.bool ((crew_isMinute p0.From)), [], 0, []⟩, ⟨.bool ((crew_in p0.To p0.From 1439)), [], 0, []⟩] [20] [] rfl rfl rfl (.cons (fun h => h) (.cons (fun h => h) (.cons (fun h => h) (.cons (fun h => by rw [h]; rfl) (.cons (fun h => h) (.cons (fun h => h) (.cons (fun h => h) (.cons (fun h => h) (.cons (fun h => h) (.cons (fun h => by rw [h]; rfl) .nil)))))))))) (.free (c_crew_in p0.Id 1 99) (.on (fun hW => c_crew_isMinute p0.From) (.on (fun hW => c_crew_in p0.To p0.From 1439) .nil))) ?_
 refine W.cond rfl (fun hb1 => ?_) (fun hb1 => ?_)
 · have H := of_true H hb1
   refine W.rg env [2] [] ?_
   refine W.ret ?_
   refine At.rthen ?_
   cases H
   exact At.ret env.ty rfl rfl (fun q hq => by cases hq) (.refl _) hval
 · have H := of_false H hb1
   refine W.skip ?_
   refine At.thenC ?_
   refine W.rg env [2] [] ?_
   refine W.ret ?_
   cases H
   exact At.ret env.ty rfl rfl (fun q hq => by cases hq) (.refl _) hval
theorem c_crew_Check (p0 : Crew) {r : Int} (H : crew_Check p0 = some r) : Ctr Tryz.prog 32 [.agg [roL 4 enc_Task p0.Tasks, roL 1 enc_ListRange p0.Travel, roL 3 enc_Hand p0.Hands]] (.int .i64 (r)) := by
 unfold crew_Check at H
 refine Ctr.of_body (N := 87) Tryz.func32 (by kernel_rfl) (c := _) rfl Tryz.ntmps32 rfl (fun w0 h0 hval => ?_)
 refine W.rg env [1] [1] ?_
 refine W.seq ?_
 refine W.seq ?_
 obtain ⟨y1, hy2, H⟩ := of_bindO H
 refine W.region env [] [⟨.bool (y1), [], 0, []⟩] rfl rfl rfl (.cons (fun h => h) (.cons (fun h => h) (.cons (fun h => h) (.cons (fun h => by rw [h]; rfl) (.cons (fun h => h) (.cons (fun h => h) (.cons (fun h => h) (.cons (fun h => by rw [h]; rfl) .nil)))))))) (.on (fun hW => c_crew_isTravel p0.Travel (of_true hy2 hW)) .nil) (At.keep (ts := [1, 22]) (ids := [1]) rfl rfl ?_)
 refine At.thenC ?_
 refine W.cond rfl (fun hb3 => ?_) (fun hb3 => ?_)
 · have H := of_true H hb3
   refine W.rg env [2] [] ?_
   refine W.ret ?_
   refine At.rthen ?_
   cases H
   exact At.ret env.ty rfl rfl (fun q hq => by cases hq) (.refl _) hval
 · have H := of_false H hb3
   refine W.skip ?_
   refine At.thenC ?_
   refine W.seq ?_
   refine W.rg env [1, 24, 25, 26] [1] ?_
   refine W.block ?_
   refine At.keep (ts := [1, 24, 25, 26]) (ids := [1]) rfl rfl ?_
   refine W.len (t := 24) rfl (fun (hn4 : p0.Tasks.length ≤ maxLen) => ?_)
   refine W.rangeGo H (fun i4 (s4 : Unit) => [(1, .lp 1 0), (24, roL 4 enc_Task p0.Tasks), (25, .int .i64 (((p0.Tasks.length : Nat) : Int))), (26, .int .i64 ((i4 : Int)))]) (fun i4 (s4 : Unit) => [(1, .cells [roL 4 enc_Task p0.Tasks, roL 1 enc_ListRange p0.Travel, roL 3 enc_Hand p0.Hands])]) (.cons .q (.cons .q (.cons .qi (.cons .qi .nil)))) (.cons .q .nil) (fun k4 i4 s4 hle4 H1 H2 K0 hK4 => ?_)
   refine W.rg env [1, 24, 25, 26, 27] [1] ?_
   refine W.seq ?_
   refine W.cond rfl (fun hb5 => ?_) (fun hb5 => ?_)
   · have hi4 : i4 < p0.Tasks.length := by have := of_decide_eq_true hb5; omega
     have H := H1 hi4
     refine W.skip ?_
     refine At.thenC ?_
     refine W.seq ?_
     refine W.block ?_
     refine W.sr env [] [] [1, 3, 4, 24, 25, 26] [1, 4] rfl rfl rfl (.cons (⟨by omega, by omega⟩ : 0 ≤ (i4 : Int) ∧ (i4 : Int) < ((p0.Tasks.length : Nat) : Int)) .nil) .nil ?_
     obtain ⟨hc6, H⟩ := of_must H
     obtain ⟨hc7, H⟩ := of_must H
     refine W.sr env [] [⟨.int .i64 ((crew_CheckTask (p0.Tasks.getD i4 default))), [], 0, []⟩] [1, 24, 25, 26, 57] [1] rfl rfl (by kernel_rfl) (.cons (fun h => h) (.cons (fun h => h) (.cons (fun h => h) (.cons (fun h => h) (.cons (fun h => h) (.cons (fun h => by rw [h]; rfl) (.cons (fun h => h) (.cons (fun h => h) (.cons (fun h => h) (.cons hc6 (.cons (fun h => h) (.cons hc7 (.cons (fun h => h) (.cons (fun h => h) (.cons (fun h => h) (.cons (fun h => h) (.cons (fun h => h) (.cons (fun h => h) (.cons (fun h => h) (.cons (fun h => h) (.cons (fun hW h => by revert hW h; first | (simp +contextual; done) | grind) (.cons (fun h => by rw [h]; rfl) .nil)))))))))))))))))))))) (.free (c_crew_CheckTask (p0.Tasks.getD i4 default)) .nil) ?_
     refine W.cond rfl (fun hb8 => ?_) (fun hb8 => ?_)
     · have H := of_true H hb8
       refine W.rg env [2] [] ?_
       refine W.ret ?_
       refine At.rinb ?_
       refine At.rthen ?_
       refine At.rthen ?_
       refine At.rinb ?_
       refine At.rthen ?_
       cases H
       exact At.ret env.ty rfl rfl (fun q hq => by cases hq) (.refl _) hval
     · have H := of_false H hb8
       refine W.skip ?_
       refine At.inb ?_
       refine At.thenC ?_
       refine W.region env [] [] rfl rfl rfl (.cons (by unfold inI; have := hn4; (try unfold maxLen at this); omega) .nil) .nil (At.keep (ts := [1, 24, 25, 26]) (ids := [1]) rfl rfl ?_)
       refine At.thenK (At.keep (ts := [1, 24, 25, 26]) (ids := [1]) rfl rfl ?_)
       exact At.conv (.cons .q (.cons .q (.cons .qi (.cons .qi .nil)))) (.cons .q .nil) (hK4 hi4 () H)
   · have H := H2 (by have := of_decide_eq_false hb5; omega)
     refine W.exit ?_
     refine At.xthen ?_
     refine At.xthen ?_
     refine At.xhere ?_
     refine At.thenC ?_
     refine W.seq ?_
     refine W.rg env [1, 60, 61, 62] [1] ?_
     refine W.block ?_
     refine At.keep (ts := [1, 60, 61, 62]) (ids := [1]) rfl rfl ?_
     refine W.len (t := 60) rfl (fun (hn9 : p0.Hands.length ≤ maxLen) => ?_)
     refine W.rangeGo H (fun i9 (s9 : Unit) => [(1, .lp 1 0), (60, roL 3 enc_Hand p0.Hands), (61, .int .i64 (((p0.Hands.length : Nat) : Int))), (62, .int .i64 ((i9 : Int)))]) (fun i9 (s9 : Unit) => [(1, .cells [roL 4 enc_Task p0.Tasks, roL 1 enc_ListRange p0.Travel, roL 3 enc_Hand p0.Hands])]) (.cons .q (.cons .q (.cons .qi (.cons .qi .nil)))) (.cons .q .nil) (fun k9 i9 s9 hle9 H1 H2 K0 hK9 => ?_)
     refine W.rg env [1, 60, 61, 62, 63] [1] ?_
     refine W.seq ?_
     refine W.cond rfl (fun hb10 => ?_) (fun hb10 => ?_)
     · have hi9 : i9 < p0.Hands.length := by have := of_decide_eq_true hb10; omega
       have H := H1 hi9
       refine W.skip ?_
       refine At.thenC ?_
       refine W.seq ?_
       refine W.block ?_
       refine W.sr env [] [] [1, 5, 6, 60, 61, 62] [1, 6] rfl rfl rfl (.cons (⟨by omega, by omega⟩ : 0 ≤ (i9 : Int) ∧ (i9 : Int) < ((p0.Hands.length : Nat) : Int)) .nil) .nil ?_
       obtain ⟨hc11, H⟩ := of_must H
       obtain ⟨hc12, H⟩ := of_must H
       refine W.sr env [] [⟨.int .i64 ((crew_CheckHand (p0.Hands.getD i9 default))), [], 0, []⟩] [1, 60, 61, 62, 85] [1] rfl rfl (by kernel_rfl) (.cons (fun h => h) (.cons (fun h => h) (.cons (fun h => h) (.cons hc11 (.cons (fun h => h) (.cons hc12 (.cons (fun h => h) (.cons (fun h => h) (.cons (fun h => h) (.cons (fun h => h) (.cons (fun h => h) (.cons (fun h => h) (.cons (fun h => h) (.cons (fun h => h) (.cons (fun hW h => by revert hW h; first | (simp +contextual; done) | grind) (.cons (fun h => by rw [h]; rfl) .nil)))))))))))))))) (.free (c_crew_CheckHand (p0.Hands.getD i9 default)) .nil) ?_
       refine W.cond rfl (fun hb13 => ?_) (fun hb13 => ?_)
       · have H := of_true H hb13
         refine W.rg env [2] [] ?_
         refine W.ret ?_
         refine At.rinb ?_
         refine At.rthen ?_
         refine At.rthen ?_
         refine At.rinb ?_
         refine At.rthen ?_
         cases H
         exact At.ret env.ty rfl rfl (fun q hq => by cases hq) (.refl _) hval
       · have H := of_false H hb13
         refine W.skip ?_
         refine At.inb ?_
         refine At.thenC ?_
         refine W.region env [] [] rfl rfl rfl (.cons (by unfold inI; have := hn9; (try unfold maxLen at this); omega) .nil) .nil (At.keep (ts := [1, 60, 61, 62]) (ids := [1]) rfl rfl ?_)
         refine At.thenK (At.keep (ts := [1, 60, 61, 62]) (ids := [1]) rfl rfl ?_)
         exact At.conv (.cons .q (.cons .q (.cons .qi (.cons .qi .nil)))) (.cons .q .nil) (hK9 hi9 () H)
     · have H := H2 (by have := of_decide_eq_false hb10; omega)
       refine W.exit ?_
       refine At.xthen ?_
       refine At.xthen ?_
       refine At.xhere ?_
       refine At.thenC ?_
       refine W.rg env [2] [] ?_
       refine W.ret ?_
       cases H
       exact At.ret env.ty rfl rfl (fun q hq => by cases hq) (.refl _) hval
theorem c_slices_BinarySearchFunc_int (fuel : Nat) (p0 : (List Task)) (p1 : Int) (p2 : Task → Int → Option Int) (p2_g : Nat) (p2_a p2_b : List AV) (p2_h : ∀ x0 x1 r, p2 x0 x1 = some r → Ctr Tryz.prog p2_g (p2_a ++ ([.agg [.int .i64 (x0.Lamp), .int .i64 (x0.Place), .int .i64 (x0.At), .int .i64 (x0.Serve)], .int .i64 (x1)] ++ p2_b)) (.int .i64 (r))) {r : (Int × Bool)} (H : slices_BinarySearchFunc_int fuel p0 p1 p2 = some r) : Ctr Tryz.prog 96 [roL 4 enc_Task p0, .int .i64 (p1), .clo (.func p2_g) p2_a p2_b] (.tup [.int .i64 (r.1), .bool (r.2)]) := by
 unfold slices_BinarySearchFunc_int at H
 refine Ctr.of_body (N := 49) Tryz.func96 (by kernel_rfl) (c := _) rfl Tryz.ntmps96 rfl (fun w0 h0 hval => ?_)
 refine W.rg env [0, 1, 2] [] ?_
 refine W.rg env [0, 1, 2, 8] [] ?_
 refine W.rg env [0, 1, 2, 8, 9, 10] [] ?_
 refine W.seq ?_
 refine W.block ?_
 refine At.keep (ts := [0, 1, 2, 8, 9, 10]) (ids := []) rfl rfl ?_
 refine W.loopGo H (fun (s1 : Int × Int) => [(0, roL 4 enc_Task p0), (1, .int .i64 (p1)), (2, .clo (.func p2_g) p2_a p2_b), (8, .int .i64 (((p0.length : Nat) : Int))), (9, .int .i64 (s1.2)), (10, .int .i64 (s1.1))]) (fun (s1 : Int × Int) => []) (.cons .q (.cons .qi (.cons .q (.cons .qi (.cons .qi (.cons .qi .nil)))))) .nil (fun k1 s1 H K0 hK1 => ?_)
 refine W.seq ?_
 refine W.rg env [0, 1, 2, 8, 9, 10, 17] [] ?_
 refine W.cond rfl (fun hb2 => ?_) (fun hb2 => ?_)
 · have H := of_true H hb2
   refine W.skip ?_
   refine At.thenC ?_
   refine W.block ?_
   obtain ⟨hc3, H⟩ := of_must H
   obtain ⟨hc4, H⟩ := of_must H
   obtain ⟨hc5, H⟩ := of_must H
   refine W.sr env [] [] [0, 1, 2, 8, 9, 10, 11] [] rfl rfl rfl (.cons hc3 (.cons hc4 (.cons (by decide) (.cons hc5 .nil)))) .nil ?_
   refine W.seq ?_
   obtain ⟨hc6, H⟩ := of_must H
   obtain ⟨y7, hy8, H⟩ := of_bindO H
   refine W.region env [] [⟨.int .i64 (y7), [], 0, []⟩] rfl rfl rfl (.cons hc6 .nil) (.free (p2_h (p0.getD ((Int.fdiv (s1.2 + s1.1) (2 ^ (1 : Int).toNat))).toNat default) p1 _ hy8) .nil) (At.keep (ts := [0, 1, 2, 8, 9, 10, 11, 31]) (ids := []) rfl rfl ?_)
   refine At.thenC ?_
   refine W.cond rfl (fun hb9 => ?_) (fun hb9 => ?_)
   · have H := of_true H hb9
     obtain ⟨hc10, H⟩ := of_must H
     refine W.region env [] [] rfl rfl rfl (.cons hc10 .nil) .nil (At.keep (ts := [0, 1, 2, 8, 9, 10]) (ids := []) rfl rfl ?_)
     refine At.inb ?_
     refine At.thenK (At.keep (ts := [0, 1, 2, 8, 9, 10]) (ids := []) rfl rfl ?_)
     exact At.conv (.cons .q (.cons .qi (.cons .q (.cons .qi (.cons .qi (.cons .qi .nil)))))) .nil (hK1 (s1.1, ((Int.fdiv (s1.2 + s1.1) (2 ^ (1 : Int).toNat)) + 1)) H)
   · have H := of_false H hb9
     refine W.region env [] [] rfl rfl rfl .nil .nil (At.keep (ts := [0, 1, 2, 8, 9, 10]) (ids := []) rfl rfl ?_)
     refine At.inb ?_
     refine At.thenK (At.keep (ts := [0, 1, 2, 8, 9, 10]) (ids := []) rfl rfl ?_)
     exact At.conv (.cons .q (.cons .qi (.cons .q (.cons .qi (.cons .qi (.cons .qi .nil)))))) .nil (hK1 ((Int.fdiv (s1.2 + s1.1) (2 ^ (1 : Int).toNat)), s1.2) H)
 · have H := of_false H hb2
   refine W.exit ?_
   refine At.xthen ?_
   refine At.xthen ?_
   refine At.xhere ?_
   refine At.thenC ?_
   refine W.seq ?_
   obtain ⟨hc11, H⟩ := of_must H
   obtain ⟨y12, hy13, H⟩ := of_bindO H
   refine W.region env [] [⟨.int .i64 (y12), [], 0, []⟩] rfl rfl rfl (.cons hc11 (.cons (fun h => h) (.cons (fun h => h) (.cons (fun h => h) (.cons (fun h => h) (.cons (fun h => h) (.cons (fun h => h) (.cons (fun h => h) (.cons (fun h => h) .nil))))))))) (.on (fun hW => p2_h (p0.getD (s1.2).toNat default) p1 _ (of_true hy13 hW)) .nil) (At.keep (ts := [6, 7]) (ids := []) rfl rfl ?_)
   refine At.thenC ?_
   refine W.ret ?_
   cases H
   exact At.ret env.ty rfl rfl (fun q hq => by cases hq) (.refl _) hval
theorem c_cmp_isNaN_int (p0 : Int) : Ctr Tryz.prog 106 [.int .i64 (p0)] (.bool ((cmp_isNaN_int p0))) := by
 obtain ⟨r, H⟩ : ∃ r, cmp_isNaN_int p0 = r := ⟨_, rfl⟩
 rw [H]
 unfold cmp_isNaN_int at H
 refine Ctr.of_body (N := 6) Tryz.func106 (by kernel_rfl) (c := _) rfl Tryz.ntmps106 rfl (fun w0 h0 hval => ?_)
 refine W.rg env [0] [] ?_
 refine W.rg env [2] [] ?_
 refine W.ret ?_
 cases H
 exact At.ret env.ty rfl rfl (fun q hq => by cases hq) (.refl _) hval
theorem c_cmp_Compare_int (p0 : Int) (p1 : Int) : Ctr Tryz.prog 98 [.int .i64 (p0), .int .i64 (p1)] (.int .i64 ((cmp_Compare_int p0 p1))) := by
 obtain ⟨r, H⟩ : ∃ r, cmp_Compare_int p0 p1 = r := ⟨_, rfl⟩
 rw [H]
 unfold cmp_Compare_int at H
 refine Ctr.of_body (N := 20) Tryz.func98 (by kernel_rfl) (c := _) rfl Tryz.ntmps98 rfl (fun w0 h0 hval => ?_)
 refine W.rg env [0, 1] [] ?_
 refine W.sr env [] [⟨.bool ((cmp_isNaN_int p0)), [], 0, []⟩] [0, 1, 5] [] rfl rfl rfl .nil (.free (c_cmp_isNaN_int p0) .nil) ?_
 refine W.sr env [] [⟨.bool ((cmp_isNaN_int p1)), [], 0, []⟩] [0, 1, 5, 6] [] rfl rfl rfl .nil (.free (c_cmp_isNaN_int p1) .nil) ?_
 refine W.seq ?_
 refine W.rg env [0, 1, 6, 11] [] ?_
 refine W.cond rfl (fun hb1 => ?_) (fun hb1 => ?_)
 · have H := of_true H hb1
   refine W.seq ?_
   refine W.rg env [12] [] ?_
   refine W.cond rfl (fun hb2 => ?_) (fun hb2 => ?_)
   · have H := of_true H hb2
     refine W.rg env [4] [] ?_
     refine W.ret ?_
     refine At.rthen ?_
     refine At.rthen ?_
     cases H
     exact At.ret env.ty rfl rfl (fun q hq => by cases hq) (.refl _) hval
   · have H := of_false H hb2
     refine W.skip ?_
     refine At.thenC ?_
     refine W.rg env [4] [] ?_
     refine W.ret ?_
     refine At.rthen ?_
     cases H
     exact At.ret env.ty rfl rfl (fun q hq => by cases hq) (.refl _) hval
 · have H := of_false H hb1
   refine W.skip ?_
   refine At.thenC ?_
   refine W.seq ?_
   refine W.rg env [0, 1, 13] [] ?_
   refine W.cond rfl (fun hb3 => ?_) (fun hb3 => ?_)
   · have H := of_true H hb3
     refine W.rg env [4] [] ?_
     refine W.ret ?_
     refine At.rthen ?_
     cases H
     exact At.ret env.ty rfl rfl (fun q hq => by cases hq) (.refl _) hval
   · have H := of_false H hb3
     refine W.skip ?_
     refine At.thenC ?_
     refine W.seq ?_
     refine W.rg env [0, 1, 16] [] ?_
     refine W.cond rfl (fun hb4 => ?_) (fun hb4 => ?_)
     · have H := of_true H hb4
       refine W.rg env [4] [] ?_
       refine W.ret ?_
       refine At.rthen ?_
       cases H
       exact At.ret env.ty rfl rfl (fun q hq => by cases hq) (.refl _) hval
     · have H := of_false H hb4
       refine W.skip ?_
       refine At.thenC ?_
       refine W.seq ?_
       refine W.rg env [19] [] ?_
       refine W.cond rfl (fun hb5 => ?_) (fun hb5 => ?_)
       · have H := of_true H hb5
         refine W.rg env [4] [] ?_
         refine W.ret ?_
         refine At.rthen ?_
         cases H
         exact At.ret env.ty rfl rfl (fun q hq => by cases hq) (.refl _) hval
       · have H := of_false H hb5
         refine W.skip ?_
         refine At.thenC ?_
         refine W.rg env [4] [] ?_
         refine W.ret ?_
         cases H
         exact At.ret env.ty rfl rfl (fun q hq => by cases hq) (.refl _) hval
theorem c_crew_find_1 (p0 : Task) (p1 : Int) : Ctr Tryz.prog 97 [.agg [.int .i64 (p0.Lamp), .int .i64 (p0.Place), .int .i64 (p0.At), .int .i64 (p0.Serve)], .int .i64 (p1)] (.int .i64 ((crew_find_1 p0 p1))) := by
 obtain ⟨r, H⟩ : ∃ r, crew_find_1 p0 p1 = r := ⟨_, rfl⟩
 rw [H]
 unfold crew_find_1 at H
 refine Ctr.of_body (N := 9) Tryz.func97 (by kernel_rfl) (c := _) rfl Tryz.ntmps97 rfl (fun w0 h0 hval => ?_)
 refine W.rg env [1, 2] [2] ?_
 refine W.sr env [] [⟨.int .i64 ((cmp_Compare_int p0.Lamp p1)), [], 0, []⟩] [4] [] rfl rfl rfl .nil (.free (c_cmp_Compare_int p0.Lamp p1) .nil) ?_
 refine W.ret ?_
 cases H
 exact At.ret env.ty rfl rfl (fun q hq => by cases hq) (.refl _) hval
theorem c_crew_find (fuel : Nat) (p0 : Crew) (p1 : Int) {r : (Int × Bool)} (H : crew_find fuel p0 p1 = some r) : Ctr Tryz.prog 70 [.agg [roL 4 enc_Task p0.Tasks, roL 1 enc_ListRange p0.Travel, roL 3 enc_Hand p0.Hands], .int .i64 (p1)] (.tup [.int .i64 (r.1), .bool (r.2)]) := by
 unfold crew_find at H
 refine Ctr.of_body (N := 12) Tryz.func70 (by kernel_rfl) (c := _) rfl Tryz.ntmps70 rfl (fun w0 h0 hval => ?_)
 refine W.rg env [1, 2] [2] ?_
 refine W.seq ?_
 obtain ⟨y1, hy2, H⟩ := of_bindO H
 refine W.region env [] [⟨.tup [.int .i64 (y1.1), .bool (y1.2)], [], 0, []⟩] rfl rfl rfl .nil (.free (c_slices_BinarySearchFunc_int fuel p0.Tasks p1 (fun x0 x1 => some (crew_find_1 x0 x1)) 97 [] [] (fun x0 x1 r h => by cases h; exact c_crew_find_1 x0 x1) hy2) .nil) (At.keep (ts := [4, 5]) (ids := []) rfl rfl ?_)
 refine At.thenC ?_
 refine W.ret ?_
 cases H
 exact At.ret env.ty rfl rfl (fun q hq => by cases hq) (.refl _) hval
theorem c_slices_Clone_Task (p0 : (List Task)) {r : (List Task)} (H : slices_Clone_Task p0 = some r) : Ctr Tryz.prog 88 [roL 4 enc_Task p0] (roL 4 enc_Task r) := by
 unfold slices_Clone_Task at H
 refine Ctr.of_body (N := 8) Tryz.func88 (by kernel_rfl) (c := _) rfl Tryz.ntmps88 rfl (fun w0 h0 hval => ?_)
 refine W.rg env [0] [] ?_
 refine W.seq ?_
 refine W.rg env [0, 4] [] ?_
 refine W.condNz rfl (fun hz => ?_) ?_
 · obtain rfl : p0 = [] := List.length_eq_zero_iff.1 hz
   obtain ⟨hc1, H⟩ := of_must H
   refine W.rg env [2] [] ?_
   refine W.ret ?_
   refine At.rthen ?_
   cases H
   exact At.ret env.ty rfl rfl (fun q hq => by cases hq) (Sim.nil _ _) hval
 · refine W.skip ?_
   refine At.thenC ?_
   refine W.seq ?_
   obtain ⟨hc1, H⟩ := of_must H
   refine W.region env [5] [] rfl rfl rfl (.cons (⟨by first | rfl | (simp; done) | omega | (simp; omega), by have := hc1; first | simpa using this | (unfold room at this ⊢; simp at this ⊢; omega)⟩) .nil) .nil (At.keep (ts := [2]) (ids := [5]) rfl rfl ?_)
   refine At.convM (.cons (y := bufL 41 4 enc_Task (([] : List Task) ++ p0)) (BSim.seg (Seg.push (Seg.lit (f := enc_Task) (sz := 4) ([] : List Task) rfl rfl (fun _ => rfl)) (Seg.refl enc_Task p0))) .nil) ?_
   refine At.thenC ?_
   refine W.ret ?_
   cases H
   exact At.ret env.ty rfl rfl (fun q hq => by cases hq; exact (by first | rfl | (simp; done) | omega | (simp; omega))) (.refl _) hval
theorem c_slices_Clone_Hand (p0 : (List Hand)) {r : (List Hand)} (H : slices_Clone_Hand p0 = some r) : Ctr Tryz.prog 89 [roL 3 enc_Hand p0] (roL 3 enc_Hand r) := by
 unfold slices_Clone_Hand at H
 refine Ctr.of_body (N := 8) Tryz.func89 (by kernel_rfl) (c := _) rfl Tryz.ntmps89 rfl (fun w0 h0 hval => ?_)
 refine W.rg env [0] [] ?_
 refine W.seq ?_
 refine W.rg env [0, 4] [] ?_
 refine W.condNz rfl (fun hz => ?_) ?_
 · obtain rfl : p0 = [] := List.length_eq_zero_iff.1 hz
   obtain ⟨hc1, H⟩ := of_must H
   refine W.rg env [2] [] ?_
   refine W.ret ?_
   refine At.rthen ?_
   cases H
   exact At.ret env.ty rfl rfl (fun q hq => by cases hq) (Sim.nil _ _) hval
 · refine W.skip ?_
   refine At.thenC ?_
   refine W.seq ?_
   obtain ⟨hc1, H⟩ := of_must H
   refine W.region env [5] [] rfl rfl rfl (.cons (⟨by first | rfl | (simp; done) | omega | (simp; omega), by have := hc1; first | simpa using this | (unfold room at this ⊢; simp at this ⊢; omega)⟩) .nil) .nil (At.keep (ts := [2]) (ids := [5]) rfl rfl ?_)
   refine At.convM (.cons (y := bufL 43 3 enc_Hand (([] : List Hand) ++ p0)) (BSim.seg (Seg.push (Seg.lit (f := enc_Hand) (sz := 3) ([] : List Hand) rfl rfl (fun _ => rfl)) (Seg.refl enc_Hand p0))) .nil) ?_
   refine At.thenC ?_
   refine W.ret ?_
   cases H
   exact At.ret env.ty rfl rfl (fun q hq => by cases hq; exact (by first | rfl | (simp; done) | omega | (simp; omega))) (.refl _) hval
theorem c_slices_Clone_Range (p0 : (List Range)) {r : (List Range)} (H : slices_Clone_Range p0 = some r) : Ctr Tryz.prog 90 [roL 2 enc_Range p0] (roL 2 enc_Range r) := by
 unfold slices_Clone_Range at H
 refine Ctr.of_body (N := 8) Tryz.func90 (by kernel_rfl) (c := _) rfl Tryz.ntmps90 rfl (fun w0 h0 hval => ?_)
 refine W.rg env [0] [] ?_
 refine W.seq ?_
 refine W.rg env [0, 4] [] ?_
 refine W.condNz rfl (fun hz => ?_) ?_
 · obtain rfl : p0 = [] := List.length_eq_zero_iff.1 hz
   obtain ⟨hc1, H⟩ := of_must H
   refine W.rg env [2] [] ?_
   refine W.ret ?_
   refine At.rthen ?_
   cases H
   exact At.ret env.ty rfl rfl (fun q hq => by cases hq) (Sim.nil _ _) hval
 · refine W.skip ?_
   refine At.thenC ?_
   refine W.seq ?_
   obtain ⟨hc1, H⟩ := of_must H
   refine W.region env [5] [] rfl rfl rfl (.cons (⟨by first | rfl | (simp; done) | omega | (simp; omega), by have := hc1; first | simpa using this | (unfold room at this ⊢; simp at this ⊢; omega)⟩) .nil) .nil (At.keep (ts := [2]) (ids := [5]) rfl rfl ?_)
   refine At.convM (.cons (y := bufL 93 2 enc_Range (([] : List Range) ++ p0)) (BSim.seg (Seg.push (Seg.lit (f := enc_Range) (sz := 2) ([] : List Range) rfl rfl (fun _ => rfl)) (Seg.refl enc_Range p0))) .nil) ?_
   refine At.thenC ?_
   refine W.ret ?_
   cases H
   exact At.ret env.ty rfl rfl (fun q hq => by cases hq; exact (by first | rfl | (simp; done) | omega | (simp; omega))) (.refl _) hval
theorem c_crew_copied (p0 : Crew) {r : Crew} (H : crew_copied p0 = some r) : Ctr Tryz.prog 53 [.agg [roL 4 enc_Task p0.Tasks, roL 1 enc_ListRange p0.Travel, roL 3 enc_Hand p0.Hands]] (.agg [roL 4 enc_Task r.Tasks, roL 1 enc_ListRange r.Travel, roL 3 enc_Hand r.Hands]) := by
 unfold crew_copied at H
 refine Ctr.of_body (N := 29) Tryz.func53 (by kernel_rfl) (c := _) rfl Tryz.ntmps53 rfl (fun w0 h0 hval => ?_)
 refine W.rg env [1, 2] [1, 2] ?_
 refine W.seq ?_
 obtain ⟨y1, hy2, H⟩ := of_bindO H
 obtain ⟨y3, hy4, H⟩ := of_bindO H
 refine W.region env [] [⟨roL 4 enc_Task y1, [], 0, []⟩, ⟨roL 3 enc_Hand y3, [], 0, []⟩] rfl rfl (by kernel_rfl) .nil (.free (c_slices_Clone_Task p0.Tasks hy2) (.free (c_slices_Clone_Hand p0.Hands hy4) .nil)) (At.keep (ts := [1, 2, 3]) (ids := [1, 2, 3]) rfl rfl ?_)
 refine At.thenC ?_
 refine W.seq ?_
 refine W.rg env [2, 3, 14, 15, 16] [2, 3] ?_
 refine W.block ?_
 refine At.nilOwnCell 3 1 751 106 1 (e := fun i => enc_ListRange (([] : List (List Range)).getD i default)) rfl rfl rfl ?_
 refine At.keep (ts := [2, 3, 14, 15, 16]) (ids := [2, 3, 751]) rfl rfl ?_
 refine W.len (t := 14) rfl (fun (hn5 : p0.Travel.length ≤ maxLen) => ?_)
 refine W.rangeGo H (fun i5 (s5 : (List (List Range))) => [(2, .lp 2 0), (3, .lp 3 0), (14, roL 1 enc_ListRange p0.Travel), (15, .int .i64 (((p0.Travel.length : Nat) : Int))), (16, .int .i64 ((i5 : Int)))]) (fun i5 (s5 : (List (List Range))) => [(2, .cells [.nilS, .nilS, .nilS]), (3, .cells [roL 4 enc_Task y1, .buf 751 (s5).length, roL 3 enc_Hand y3]), (751, bufL 106 1 enc_ListRange s5)]) (.cons .q (.cons .q (.cons .q (.cons .qi (.cons .qi .nil))))) (.cons .q (.cons (BSim.cells (.cons .q (.cons .qc (.cons .q .nil)))) (.cons .q .nil))) (fun k5 i5 s5 hle5 H1 H2 K0 hK5 => ?_)
 refine W.rg env [2, 3, 14, 15, 16, 17] [2, 3, 751] ?_
 refine W.seq ?_
 refine W.cond rfl (fun hb6 => ?_) (fun hb6 => ?_)
 · have hi5 : i5 < p0.Travel.length := by have := of_decide_eq_true hb6; omega
   have H := H1 hi5
   refine W.skip ?_
   refine At.thenC ?_
   refine W.seq ?_
   refine W.block ?_
   refine W.sr env [] [] [2, 3, 5, 14, 15, 16] [2, 3, 751] rfl rfl rfl (.cons (⟨by omega, by omega⟩ : 0 ≤ (i5 : Int) ∧ (i5 : Int) < ((p0.Travel.length : Nat) : Int)) .nil) .nil ?_
   obtain ⟨y7, hy8, H⟩ := of_bindO H
   obtain ⟨hc9, H⟩ := of_must H
   refine W.region env [] [⟨roL 2 enc_Range y7, [], 0, []⟩] rfl rfl (by kernel_rfl) (.cons (⟨by first | rfl | (simp; done) | omega | (simp; omega), by have := hc9; first | simpa using this | (unfold room at this ⊢; simp at this ⊢; omega)⟩) .nil) (.free (c_slices_Clone_Range (p0.Travel.getD i5 default) hy8) .nil) (At.keep (ts := [2, 3, 14, 15, 16]) (ids := [2, 3, 751]) rfl rfl ?_)
   refine At.convM (.cons (.refl _) (.cons (.refl _) (.cons (y := bufL 106 1 enc_ListRange (s5 ++ ([y7] : List (List Range)))) (BSim.seg (Seg.push (Seg.refl enc_ListRange _) (Seg.lit (f := enc_ListRange) (sz := 1) ([y7] : List (List Range)) rfl rfl (fun _ => rfl)))) .nil))) ?_
   refine At.inb ?_
   refine At.thenC ?_
   refine W.region env [] [] rfl rfl rfl (.cons (by unfold inI; have := hn5; (try unfold maxLen at this); omega) .nil) .nil (At.keep (ts := [2, 3, 14, 15, 16]) (ids := [2, 3, 751]) rfl rfl ?_)
   refine At.thenK (At.keep (ts := [2, 3, 14, 15, 16]) (ids := [2, 3, 751]) rfl rfl ?_)
   exact At.conv (.cons .q (.cons .q (.cons .q (.cons .qi (.cons .qi .nil))))) (.cons .q (.cons (BSim.cells (.cons .q (.cons .qc (.cons .q .nil)))) (.cons .q .nil))) (hK5 hi5 (s5 ++ ([y7] : List (List Range))) H)
 · have H := H2 (by have := of_decide_eq_false hb6; omega)
   refine W.exit ?_
   refine At.xthen ?_
   refine At.xthen ?_
   refine At.xhere ?_
   refine At.thenC ?_
   refine W.rg env [2] [2, 751] ?_
   refine W.ret ?_
   cases H
   exact At.ret env.ty rfl rfl (fun q hq => by cases hq; exact (by first | rfl | (simp; done) | omega | (simp; omega))) (.refl _) hval
theorem co_slices_Clone_Task (p0 : (List Task)) {r : (List Task)} (H : slices_Clone_Task p0 = some r) : CtrO Tryz.prog 88 [roL 4 enc_Task p0] [] (.buf 900 r.length) [(900, bufL 41 4 enc_Task r)] := by
 unfold slices_Clone_Task at H
 refine CtrO.of_body (N := 8) Tryz.func88 (by kernel_rfl) (c := _) rfl Tryz.ntmps88 rfl (fun w0 h0 ρb hval hdom => ?_)
 refine W.rg env [0] [] ?_
 refine W.seq ?_
 refine W.rg env [0, 4] [] ?_
 refine W.condNz rfl (fun hz => ?_) ?_
 · obtain rfl : p0 = [] := List.length_eq_zero_iff.1 hz
   obtain ⟨hc1, H⟩ := of_must H
   refine W.rg env [2] [] ?_
   refine W.ret ?_
   refine At.rthen ?_
   cases H
   refine At.nilOwn 2 800 41 4 (e := fun i => enc_Task (([] : List Task).getD i default)) rfl rfl ?_
   exact At.retK env.ty [800] 100 rfl rfl rfl rfl (.cons (.refl _) .nil) (.of_eq (by refine bufEq ?_; first | (simp [copyAt]; done) | omega | (simp [copyAt]; omega) | rfl)) hval hdom rfl
 · refine W.skip ?_
   refine At.thenC ?_
   refine W.seq ?_
   obtain ⟨hc1, H⟩ := of_must H
   refine W.region env [5] [] rfl rfl rfl (.cons (⟨by first | rfl | (simp; done) | omega | (simp; omega), by have := hc1; first | simpa using this | (unfold room at this ⊢; simp at this ⊢; omega)⟩) .nil) .nil (At.keep (ts := [2]) (ids := [5]) rfl rfl ?_)
   refine At.convM (.cons (y := bufL 41 4 enc_Task (([] : List Task) ++ p0)) (BSim.seg (Seg.push (Seg.lit (f := enc_Task) (sz := 4) ([] : List Task) rfl rfl (fun _ => rfl)) (Seg.refl enc_Task p0))) .nil) ?_
   refine At.thenC ?_
   refine W.ret ?_
   cases H
   exact At.retK env.ty [5] 895 rfl rfl rfl rfl (.cons (.refl _) .nil) (.of_eq (by refine bufEq ?_; first | (simp [copyAt]; done) | omega | (simp [copyAt]; omega) | rfl)) hval hdom rfl
theorem co_crew_copied_o0_1 (p0 : Crew) {r : Crew} (H : crew_copied p0 = some r) : CtrO Tryz.prog 53 [.agg [roL 4 enc_Task p0.Tasks, roL 1 enc_ListRange p0.Travel, roL 3 enc_Hand p0.Hands]] [] (.agg [.buf 940 (r.Tasks).length, .buf 941 (r.Travel).length, roL 3 enc_Hand r.Hands]) [(940, bufL 41 4 enc_Task r.Tasks), (941, bufL 106 1 enc_ListRange r.Travel)] := by
 unfold crew_copied at H
 refine CtrO.of_body (N := 29) Tryz.func53 (by kernel_rfl) (c := _) rfl Tryz.ntmps53 rfl (fun w0 h0 ρb hval hdom => ?_)
 refine W.rg env [1, 2] [1, 2] ?_
 refine W.seq ?_
 obtain ⟨y1, hy2, H⟩ := of_bindO H
 obtain ⟨y3, hy4, H⟩ := of_bindO H
 refine W.region env [] [⟨.buf 900 y1.length, [(900, bufL 41 4 enc_Task y1)], 9000, []⟩, ⟨roL 3 enc_Hand y3, [], 0, []⟩] rfl rfl (by kernel_rfl) .nil (.free ((Ctr.ofO (co_slices_Clone_Task p0.Tasks hy2))) (.free (c_slices_Clone_Hand p0.Hands hy4) .nil)) (At.keep (ts := [1, 2, 3]) (ids := [1, 2, 3, 9900]) rfl rfl ?_)
 refine At.thenC ?_
 refine W.seq ?_
 refine W.rg env [2, 3, 14, 15, 16] [2, 3, 9900] ?_
 refine W.block ?_
 refine At.nilOwnCell 3 1 751 106 1 (e := fun i => enc_ListRange (([] : List (List Range)).getD i default)) rfl rfl rfl ?_
 refine At.keep (ts := [2, 3, 14, 15, 16]) (ids := [2, 3, 751, 9900]) rfl rfl ?_
 refine W.len (t := 14) rfl (fun (hn5 : p0.Travel.length ≤ maxLen) => ?_)
 refine W.rangeGo H (fun i5 (s5 : (List (List Range))) => [(2, .lp 2 0), (3, .lp 3 0), (14, roL 1 enc_ListRange p0.Travel), (15, .int .i64 (((p0.Travel.length : Nat) : Int))), (16, .int .i64 ((i5 : Int)))]) (fun i5 (s5 : (List (List Range))) => [(2, .cells [.nilS, .nilS, .nilS]), (3, .cells [.buf 9900 (y1).length, .buf 751 (s5).length, roL 3 enc_Hand y3]), (751, bufL 106 1 enc_ListRange s5), (9900, bufL 41 4 enc_Task y1)]) (.cons .q (.cons .q (.cons .q (.cons .qi (.cons .qi .nil))))) (.cons .q (.cons (BSim.cells (.cons .qc (.cons .qc (.cons .q .nil)))) (.cons .q (.cons .q .nil)))) (fun k5 i5 s5 hle5 H1 H2 K0 hK5 => ?_)
 refine W.rg env [2, 3, 14, 15, 16, 17] [2, 3, 751, 9900] ?_
 refine W.seq ?_
 refine W.cond rfl (fun hb6 => ?_) (fun hb6 => ?_)
 · have hi5 : i5 < p0.Travel.length := by have := of_decide_eq_true hb6; omega
   have H := H1 hi5
   refine W.skip ?_
   refine At.thenC ?_
   refine W.seq ?_
   refine W.block ?_
   refine W.sr env [] [] [2, 3, 5, 14, 15, 16] [2, 3, 751, 9900] rfl rfl rfl (.cons (⟨by omega, by omega⟩ : 0 ≤ (i5 : Int) ∧ (i5 : Int) < ((p0.Travel.length : Nat) : Int)) .nil) .nil ?_
   obtain ⟨y7, hy8, H⟩ := of_bindO H
   obtain ⟨hc9, H⟩ := of_must H
   refine W.region env [] [⟨roL 2 enc_Range y7, [], 0, []⟩] rfl rfl (by kernel_rfl) (.cons (⟨by first | rfl | (simp; done) | omega | (simp; omega), by have := hc9; first | simpa using this | (unfold room at this ⊢; simp at this ⊢; omega)⟩) .nil) (.free (c_slices_Clone_Range (p0.Travel.getD i5 default) hy8) .nil) (At.keep (ts := [2, 3, 14, 15, 16]) (ids := [2, 3, 751, 9900]) rfl rfl ?_)
   refine At.convM (.cons (.refl _) (.cons (.refl _) (.cons (y := bufL 106 1 enc_ListRange (s5 ++ ([y7] : List (List Range)))) (BSim.seg (Seg.push (Seg.refl enc_ListRange _) (Seg.lit (f := enc_ListRange) (sz := 1) ([y7] : List (List Range)) rfl rfl (fun _ => rfl)))) (.cons (.refl _) .nil)))) ?_
   refine At.inb ?_
   refine At.thenC ?_
   refine W.region env [] [] rfl rfl rfl (.cons (by unfold inI; have := hn5; (try unfold maxLen at this); omega) .nil) .nil (At.keep (ts := [2, 3, 14, 15, 16]) (ids := [2, 3, 751, 9900]) rfl rfl ?_)
   refine At.thenK (At.keep (ts := [2, 3, 14, 15, 16]) (ids := [2, 3, 751, 9900]) rfl rfl ?_)
   exact At.conv (.cons .q (.cons .q (.cons .q (.cons .qi (.cons .qi .nil))))) (.cons .q (.cons (BSim.cells (.cons .qc (.cons .qc (.cons .q .nil)))) (.cons .q (.cons .q .nil)))) (hK5 hi5 (s5 ++ ([y7] : List (List Range))) H)
 · have H := H2 (by have := of_decide_eq_false hb6; omega)
   refine W.exit ?_
   refine At.xthen ?_
   refine At.xthen ?_
   refine At.xhere ?_
   refine At.thenC ?_
   refine W.rg env [2] [2, 751, 9900] ?_
   refine W.ret ?_
   cases H
   refine At.ren [(9900, 940), (751, 941)] (K := [2, 751, 9900]) (ts := [2]) rfl rfl rfl rfl rfl ?_
   exact At.retK env.ty [940, 941] 0 rfl rfl rfl rfl (.cons (.refl _) (.cons (.refl _) .nil)) (Sim.aggL (.cons .qc (.cons .qc (.cons (.refl _) .nil)))) hval hdom rfl
theorem cl_slices_Insert_Task (p0 : List Task) (p1 : Int) (p2 : Task) {r : List Task} (H : slices_Insert_Task p0 p1 p2 = some r) : CtrO Tryz.prog 71 [.buf 700 p0.length, .int .i64 p1, .buf 701 1] [(700, bufL 41 4 enc_Task p0), (701, bufL 41 4 enc_Task [p2])] (.buf 900 r.length) [(701, bufL 41 4 enc_Task [p2]), (700, .dead), (900, bufL 41 4 enc_Task r)] := by
 unfold slices_Insert_Task at H
 obtain ⟨h1, H⟩ := of_must H
 obtain ⟨h2, H⟩ := of_must H
 cases H
 exact insert_ctr (Go.Av.enters_of Tryz.func71 (by kernel_rfl) (c := _) rfl) insw_Tryz_71 insv_Tryz_71 (by kernel_rfl) (by kernel_rfl) (env.ty 41 _ rfl) rfl (by decide) enc_Task p0 p1 p2 h1 h2
theorem c_crew_With (fuel : Nat) (p0 : Crew) (p1 : Task) {r : (Crew × Int)} (H : crew_With fuel p0 p1 = some r) : Ctr Tryz.prog 19 [.agg [roL 4 enc_Task p0.Tasks, roL 1 enc_ListRange p0.Travel, roL 3 enc_Hand p0.Hands], .agg [.int .i64 (p1.Lamp), .int .i64 (p1.Place), .int .i64 (p1.At), .int .i64 (p1.Serve)]] (.tup [.agg [roL 4 enc_Task r.1.Tasks, roL 1 enc_ListRange r.1.Travel, roL 3 enc_Hand r.1.Hands], .int .i64 (r.2)]) := by
 unfold crew_With at H
 refine Ctr.of_body (N := 55) Tryz.func19 (by kernel_rfl) (c := _) rfl Tryz.ntmps19 rfl (fun w0 h0 hval => ?_)
 refine W.rg env [2, 3, 4] [2, 3, 4] ?_
 refine W.seq ?_
 refine W.seq ?_
 obtain ⟨y1, hy2, H⟩ := of_bindO H
 refine W.region env [] [⟨.int .i64 (y1), [], 0, []⟩] rfl rfl rfl .nil (.free (c_crew_Check p0 hy2) .nil) (At.keep (ts := [2, 3, 4, 6]) (ids := [2, 3, 4]) rfl rfl ?_)
 refine At.thenC ?_
 refine W.rg env [2, 3, 4, 6, 13] [2, 3, 4] ?_
 refine W.cond rfl (fun hb3 => ?_) (fun hb3 => ?_)
 · have H := of_true H hb3
   refine W.rg env [4, 5] [4] ?_
   refine W.ret ?_
   refine At.rthen ?_
   cases H
   exact At.ret env.ty rfl rfl (fun q hq => by cases hq) (Sim.tupL (.cons (Sim.aggL (.cons (Sim.nil _ _) (.cons (Sim.nil _ _) (.cons (Sim.nil _ _) .nil)))) (.cons (.refl _) .nil))) hval
 · have H := of_false H hb3
   refine W.skip ?_
   refine At.thenC ?_
   refine W.seq ?_
   obtain ⟨y4, hy5, H⟩ := of_bindO H
   refine W.region env [] [⟨.tup [.int .i64 (y4.1), .bool (y4.2)], [], 0, []⟩] rfl rfl rfl .nil (.free (c_crew_find fuel p0 p1.Lamp hy5) .nil) (At.keep (ts := [2, 3, 4, 7, 8]) (ids := [2, 3, 4]) rfl rfl ?_)
   refine At.thenC ?_
   refine W.seq ?_
   refine W.block ?_
   refine W.sr env [] [⟨.int .i64 ((crew_CheckTask p1)), [], 0, []⟩] [2, 3, 4, 7, 23] [2, 3, 4] rfl rfl rfl (.cons (fun h => h) (.cons (fun h => h) (.cons (fun h => h) (.cons (fun h => h) (.cons (fun h => h) (.cons (fun h => by rw [h]; rfl) (.cons (fun h => by rw [h]; rfl) .nil))))))) (.free (c_crew_CheckTask p1) .nil) ?_
   refine W.cond rfl (fun hb6 => ?_) (fun hb6 => ?_)
   · have H := of_true H hb6
     refine W.rg env [4, 5] [4] ?_
     refine W.ret ?_
     refine At.rinb ?_
     refine At.rthen ?_
     cases H
     exact At.ret env.ty rfl rfl (fun q hq => by cases hq) (Sim.tupL (.cons (Sim.aggL (.cons (Sim.nil _ _) (.cons (Sim.nil _ _) (.cons (Sim.nil _ _) .nil)))) (.cons (.refl _) .nil))) hval
   · have H := of_false H hb6
     refine W.rg env [2, 3, 4, 7, 39] [2, 3, 4] ?_
     refine W.cond rfl (fun hb7 => ?_) (fun hb7 => ?_)
     · have H := of_true H hb7
       refine W.rg env [4, 5] [4] ?_
       refine W.ret ?_
       refine At.rinb ?_
       refine At.rthen ?_
       cases H
       exact At.ret env.ty rfl rfl (fun q hq => by cases hq) (Sim.tupL (.cons (Sim.aggL (.cons (Sim.nil _ _) (.cons (Sim.nil _ _) (.cons (Sim.nil _ _) .nil)))) (.cons (.refl _) .nil))) hval
     · have H := of_false H hb7
       refine W.skip ?_
       refine At.inb ?_
       refine At.thenC ?_
       refine W.seq ?_
       obtain ⟨y8, hy9, H⟩ := of_bindO H
       refine W.region env [] [⟨.agg [.buf 940 (y8.Tasks).length, .buf 941 (y8.Travel).length, roL 3 enc_Hand y8.Hands], [(940, bufL 41 4 enc_Task y8.Tasks), (941, bufL 106 1 enc_ListRange y8.Travel)], 47000, []⟩] rfl rfl (by kernel_rfl) .nil (.free ((Ctr.ofO (co_crew_copied_o0_1 p0 hy9))) .nil) (At.keep (ts := [3, 4, 7, 9]) (ids := [3, 4, 9, 47940, 47941]) rfl rfl ?_)
       refine At.thenC ?_
       refine W.seq ?_
       obtain ⟨y10, hy11, H⟩ := of_bindO H
       refine W.region env [51] [⟨.buf 53900 y10.length, [(51, bufL 41 4 enc_Task ([p1] : List Task)), (47940, .dead), (53900, bufL 41 4 enc_Task y10)], 0, [47940, 51]⟩] rfl rfl (by kernel_rfl) .nil (.free (CtrO.sim (CtrO.ren (cl_slices_Insert_Task y8.Tasks y4.1 p1 hy11) [(700, 47940), (701, 51), (900, 53900)]) (.cons .qc (.cons (.refl _) (.cons .qc .nil))) (.cons (.refl _) (.cons (BSim.seg (Seg.lit (f := enc_Task) (sz := 4) ([p1] : List Task) rfl rfl (fun _ => rfl))) .nil))) .nil) (At.keep (ts := [4, 9]) (ids := [4, 9, 47941, 53900]) rfl rfl ?_)
       refine At.thenC ?_
       refine W.rg env [4, 5] [4, 47941, 53900] ?_
       refine W.ret ?_
       cases H
       exact At.ret env.ty rfl rfl (fun q hq => by cases hq; exact ⟨by first | rfl | (simp; done) | omega | (simp; omega), (by first | rfl | (simp; done) | omega | (simp; omega))⟩) (.refl _) hval
theorem c_gasolierref01_IsRange (p0 : Range) (p1 : Int) (p2 : Int) : Ctr Tryz.prog 78 [.agg [.int .i64 (p0.Lo), .int .i64 (p0.Hi)], .int .i64 (p1), .int .i64 (p2)] (.bool ((gasolierref01_IsRange p0 p1 p2))) := by
 obtain ⟨r, H⟩ : ∃ r, gasolierref01_IsRange p0 p1 p2 = r := ⟨_, rfl⟩
 rw [H]
 unfold gasolierref01_IsRange at H
 refine Ctr.of_body (N := 24) Tryz.func78 (by kernel_rfl) (c := _) rfl Tryz.ntmps78 rfl (fun w0 h0 hval => ?_)
 refine W.rg env [1, 2, 3] [3] ?_
 refine W.sr env [] [] [6] [] rfl rfl rfl (.cons (fun h => h) (.cons (fun h => h) (.cons (fun h => h) (.cons (fun h => h) (.cons (fun h => h) (.cons (fun h => h) (.cons (fun h => h) (.cons (fun h => h) (.cons (fun h => h) .nil))))))))) .nil ?_
 refine W.ret ?_
 cases H
 exact At.ret env.ty rfl rfl (fun q hq => by cases hq) (.refl _) hval
theorem c_gasolierref04_isTravel (p0 : (List (List Range))) {r : Bool} (H : gasolierref04_isTravel p0 = some r) : Ctr Tryz.prog 80 [roL 1 enc_ListRange p0] (.bool (r)) := by
 unfold gasolierref04_isTravel at H
 refine Ctr.of_body (N := 116) Tryz.func80 (by kernel_rfl) (c := _) rfl Tryz.ntmps80 rfl (fun w0 h0 hval => ?_)
 refine W.rg env [0] [] ?_
 refine W.seq ?_
 refine W.rg env [0, 12] [] ?_
 refine W.cond rfl (fun hb1 => ?_) (fun hb1 => ?_)
 · have H := of_true H hb1
   refine W.rg env [2] [] ?_
   refine W.ret ?_
   refine At.rthen ?_
   cases H
   exact At.ret env.ty rfl rfl (fun q hq => by cases hq) (.refl _) hval
 · have H := of_false H hb1
   refine W.skip ?_
   refine At.thenC ?_
   refine W.seq ?_
   refine W.rg env [0, 13, 14, 15] [] ?_
   refine W.block ?_
   refine At.keep (ts := [0, 13, 14, 15]) (ids := []) rfl rfl ?_
   refine W.len (t := 13) rfl (fun (hn2 : p0.length ≤ maxLen) => ?_)
   refine W.rangeGo H (fun i2 (s2 : Unit) => [(0, roL 1 enc_ListRange p0), (13, roL 1 enc_ListRange p0), (14, .int .i64 (((p0.length : Nat) : Int))), (15, .int .i64 ((i2 : Int)))]) (fun i2 (s2 : Unit) => []) (.cons .q (.cons .q (.cons .qi (.cons .qi .nil)))) .nil (fun k2 i2 s2 hle2 H1 H2 K0 hK2 => ?_)
   refine W.rg env [0, 13, 14, 15, 16] [] ?_
   refine W.seq ?_
   refine W.cond rfl (fun hb3 => ?_) (fun hb3 => ?_)
   · have hi2 : i2 < p0.length := by have := of_decide_eq_true hb3; omega
     have H := H1 hi2
     refine W.skip ?_
     refine At.thenC ?_
     refine W.seq ?_
     refine W.block ?_
     refine W.sr env [] [] [0, 3, 4, 13, 14, 15] [] rfl rfl rfl (.cons (⟨by omega, by omega⟩ : 0 ≤ (i2 : Int) ∧ (i2 : Int) < ((p0.length : Nat) : Int)) .nil) .nil ?_
     refine W.seq ?_
     obtain ⟨hc4, H⟩ := of_must H
     refine W.sr env [] [] [0, 4, 13, 14, 15, 32] [] rfl rfl rfl (.cons hc4 (.cons (fun h => h) (.cons (fun h => h) (.cons (fun h => h) (.cons (fun h => h) (.cons (fun h => h) (.cons (fun h => by rw [h]; rfl) .nil))))))) .nil ?_
     refine W.cond rfl (fun hb5 => ?_) (fun hb5 => ?_)
     · have H := of_true H hb5
       refine W.rg env [2] [] ?_
       refine W.ret ?_
       refine At.rthen ?_
       refine At.rinb ?_
       refine At.rthen ?_
       refine At.rthen ?_
       refine At.rinb ?_
       refine At.rthen ?_
       cases H
       exact At.ret env.ty rfl rfl (fun q hq => by cases hq) (.refl _) hval
     · have H := of_false H hb5
       refine W.skip ?_
       refine At.thenC ?_
       refine W.rg env [0, 13, 14, 15, 33, 34, 35] [] ?_
       refine W.block ?_
       refine At.keep (ts := [0, 13, 14, 15, 33, 34, 35]) (ids := []) rfl rfl ?_
       refine W.len (t := 33) rfl (fun (hn6 : (p0.getD i2 default).length ≤ maxLen) => ?_)
       refine W.rangeGo H (fun i6 (s6 : Unit) => [(0, roL 1 enc_ListRange p0), (13, roL 1 enc_ListRange p0), (14, .int .i64 (((p0.length : Nat) : Int))), (15, .int .i64 ((i2 : Int))), (33, roL 2 enc_Range (p0.getD i2 default)), (34, .int .i64 ((((p0.getD i2 default).length : Nat) : Int))), (35, .int .i64 ((i6 : Int)))]) (fun i6 (s6 : Unit) => []) (.cons .q (.cons .q (.cons .qi (.cons .qi (.cons .q (.cons .qi (.cons .qi .nil))))))) .nil (fun k6 i6 s6 hle6 H1 H2 K0 hK6 => ?_)
       refine W.rg env [0, 13, 14, 15, 33, 34, 35, 36] [] ?_
       refine W.seq ?_
       refine W.cond rfl (fun hb7 => ?_) (fun hb7 => ?_)
       · have hi6 : i6 < (p0.getD i2 default).length := by have := of_decide_eq_true hb7; omega
         have H := H1 hi6
         refine W.skip ?_
         refine At.thenC ?_
         refine W.seq ?_
         refine W.block ?_
         refine W.sr env [] [] [0, 6, 13, 14, 15, 33, 34, 35] [6] rfl rfl rfl (.cons (⟨by omega, by omega⟩ : 0 ≤ (i6 : Int) ∧ (i6 : Int) < (((p0.getD i2 default).length : Nat) : Int)) .nil) .nil ?_
         refine W.sr env [] [⟨.bool ((gasolierref01_IsRange ((p0.getD i2 default).getD i6 default) 0 600)), [], 0, []⟩] [0, 13, 14, 15, 33, 34, 35, 41] [] rfl rfl rfl .nil (.free (c_gasolierref01_IsRange ((p0.getD i2 default).getD i6 default) 0 600) .nil) ?_
         refine W.cond rfl (fun hb8 => ?_) (fun hb8 => ?_)
         · have H := of_true H hb8
           refine W.rg env [2] [] ?_
           refine W.ret ?_
           refine At.rinb ?_
           refine At.rthen ?_
           refine At.rthen ?_
           refine At.rinb ?_
           refine At.rinb ?_
           refine At.rthen ?_
           refine At.rthen ?_
           refine At.rinb ?_
           refine At.rthen ?_
           cases H
           exact At.ret env.ty rfl rfl (fun q hq => by cases hq) (.refl _) hval
         · have H := of_false H hb8
           refine W.skip ?_
           refine At.inb ?_
           refine At.thenC ?_
           refine W.region env [] [] rfl rfl rfl (.cons (by unfold inI; have := hn6; (try unfold maxLen at this); omega) .nil) .nil (At.keep (ts := [0, 13, 14, 15, 33, 34, 35]) (ids := []) rfl rfl ?_)
           refine At.thenK (At.keep (ts := [0, 13, 14, 15, 33, 34, 35]) (ids := []) rfl rfl ?_)
           exact At.conv (.cons .q (.cons .q (.cons .qi (.cons .qi (.cons .q (.cons .qi (.cons .qi .nil))))))) .nil (hK6 hi6 () H)
       · have H := H2 (by have := of_decide_eq_false hb7; omega)
         refine W.exit ?_
         refine At.xthen ?_
         refine At.xthen ?_
         refine At.xhere ?_
         refine At.inb ?_
         refine At.thenC ?_
         refine W.region env [] [] rfl rfl rfl (.cons (by unfold inI; have := hn2; (try unfold maxLen at this); omega) .nil) .nil (At.keep (ts := [0, 13, 14, 15]) (ids := []) rfl rfl ?_)
         refine At.thenK (At.keep (ts := [0, 13, 14, 15]) (ids := []) rfl rfl ?_)
         exact At.conv (.cons .q (.cons .q (.cons .qi (.cons .qi .nil)))) .nil (hK2 hi2 () H)
   · have H := H2 (by have := of_decide_eq_false hb3; omega)
     refine W.exit ?_
     refine At.xthen ?_
     refine At.xthen ?_
     refine At.xhere ?_
     refine At.thenC ?_
     refine W.seq ?_
     refine W.rg env [0, 45, 46] [] ?_
     refine W.block ?_
     refine At.keep (ts := [0, 45, 46]) (ids := []) rfl rfl ?_
     refine W.len (t := 0) rfl (fun (hn9 : p0.length ≤ maxLen) => ?_)
     refine W.rangeGo H (fun i9 (s9 : Unit) => [(0, roL 1 enc_ListRange p0), (45, .int .i64 (((p0.length : Nat) : Int))), (46, .int .i64 ((i9 : Int)))]) (fun i9 (s9 : Unit) => []) (.cons .q (.cons .qi (.cons .qi .nil))) .nil (fun k9 i9 s9 hle9 H1 H2 K0 hK9 => ?_)
     refine W.rg env [0, 45, 46, 47] [] ?_
     refine W.seq ?_
     refine W.cond rfl (fun hb10 => ?_) (fun hb10 => ?_)
     · have hi9 : i9 < p0.length := by have := of_decide_eq_true hb10; omega
       have H := H1 hi9
       refine W.skip ?_
       refine At.thenC ?_
       refine W.seq ?_
       refine W.block ?_
       refine W.rg env [0, 7, 45, 46] [] ?_
       refine W.rg env [0, 7, 45, 46, 50, 51] [] ?_
       refine W.block ?_
       refine At.keep (ts := [0, 7, 45, 46, 50, 51]) (ids := []) rfl rfl ?_
       refine W.len (t := 0) rfl (fun (hn11 : p0.length ≤ maxLen) => ?_)
       refine W.rangeGo H (fun i11 (s11 : Unit) => [(0, roL 1 enc_ListRange p0), (7, .int .i64 ((i9 : Int))), (45, .int .i64 (((p0.length : Nat) : Int))), (46, .int .i64 ((i9 : Int))), (50, .int .i64 (((p0.length : Nat) : Int))), (51, .int .i64 ((i11 : Int)))]) (fun i11 (s11 : Unit) => []) (.cons .q (.cons .qi (.cons .qi (.cons .qi (.cons .qi (.cons .qi .nil)))))) .nil (fun k11 i11 s11 hle11 H1 H2 K0 hK11 => ?_)
       refine W.rg env [0, 7, 45, 46, 50, 51, 52] [] ?_
       refine W.seq ?_
       refine W.cond rfl (fun hb12 => ?_) (fun hb12 => ?_)
       · have hi11 : i11 < p0.length := by have := of_decide_eq_true hb12; omega
         have H := H1 hi11
         refine W.skip ?_
         refine At.thenC ?_
         refine W.seq ?_
         refine W.block ?_
         refine W.rg env [0, 7, 8, 45, 46, 50, 51] [] ?_
         refine W.rg env [0, 7, 8, 45, 46, 50, 51, 55, 56] [] ?_
         refine W.block ?_
         refine At.keep (ts := [0, 7, 8, 45, 46, 50, 51, 55, 56]) (ids := []) rfl rfl ?_
         refine W.len (t := 0) rfl (fun (hn13 : p0.length ≤ maxLen) => ?_)
         refine W.rangeGo H (fun i13 (s13 : Unit) => [(0, roL 1 enc_ListRange p0), (7, .int .i64 ((i9 : Int))), (8, .int .i64 ((i11 : Int))), (45, .int .i64 (((p0.length : Nat) : Int))), (46, .int .i64 ((i9 : Int))), (50, .int .i64 (((p0.length : Nat) : Int))), (51, .int .i64 ((i11 : Int))), (55, .int .i64 (((p0.length : Nat) : Int))), (56, .int .i64 ((i13 : Int)))]) (fun i13 (s13 : Unit) => []) (.cons .q (.cons .qi (.cons .qi (.cons .qi (.cons .qi (.cons .qi (.cons .qi (.cons .qi (.cons .qi .nil))))))))) .nil (fun k13 i13 s13 hle13 H1 H2 K0 hK13 => ?_)
         refine W.rg env [0, 7, 8, 45, 46, 50, 51, 55, 56, 57] [] ?_
         refine W.seq ?_
         refine W.cond rfl (fun hb14 => ?_) (fun hb14 => ?_)
         · have hi13 : i13 < p0.length := by have := of_decide_eq_true hb14; omega
           have H := H1 hi13
           refine W.skip ?_
           refine At.thenC ?_
           refine W.seq ?_
           refine W.block ?_
           refine W.rg env [0, 7, 8, 9, 45, 46, 50, 51, 55, 56] [] ?_
           obtain ⟨hc15, H⟩ := of_must H
           obtain ⟨hc16, H⟩ := of_must H
           obtain ⟨hc17, H⟩ := of_must H
           obtain ⟨hc18, H⟩ := of_must H
           obtain ⟨hc19, H⟩ := of_must H
           obtain ⟨hc20, H⟩ := of_must H
           obtain ⟨hc21, H⟩ := of_must H
           obtain ⟨hc22, H⟩ := of_must H
           refine W.sr env [] [] [0, 7, 8, 45, 46, 50, 51, 55, 56, 112] [] rfl rfl (by first | rfl | kernel_rfl) (.cons (⟨by omega, by omega⟩ : 0 ≤ (i9 : Int) ∧ (i9 : Int) < ((p0.length : Nat) : Int)) (.cons hc15 (.cons (⟨by omega, by omega⟩ : 0 ≤ (i9 : Int) ∧ (i9 : Int) < ((p0.length : Nat) : Int)) (.cons hc16 (.cons (⟨by omega, by omega⟩ : 0 ≤ (i11 : Int) ∧ (i11 : Int) < ((p0.length : Nat) : Int)) (.cons hc17 (.cons hc18 (.cons (fun _ => (⟨by omega, by omega⟩ : 0 ≤ (i9 : Int) ∧ (i9 : Int) < ((p0.length : Nat) : Int))) (.cons (fun h => h) (.cons (fun h => h) (.cons (fun h => h) (.cons hc19 (.cons (fun h => h) (.cons (fun h => h) (.cons (fun h => h) (.cons (fun h => h) (.cons (fun _ => (⟨by omega, by omega⟩ : 0 ≤ (i9 : Int) ∧ (i9 : Int) < ((p0.length : Nat) : Int))) (.cons (fun h => h) (.cons (fun h => h) (.cons (fun h => h) (.cons hc20 (.cons (fun h => h) (.cons (fun h => h) (.cons (fun h => h) (.cons (fun h => h) (.cons (fun _ => (⟨by omega, by omega⟩ : 0 ≤ (i11 : Int) ∧ (i11 : Int) < ((p0.length : Nat) : Int))) (.cons (fun h => h) (.cons (fun h => h) (.cons (fun h => h) (.cons hc21 (.cons (fun h => h) (.cons (fun h => h) (.cons (fun h => h) (.cons (fun h => h) (.cons hc22 (.cons (fun h => h) (.cons (fun h => h) (.cons (fun h => h) (.cons (fun h => h) (.cons (fun h => by rw [h]; rfl) .nil)))))))))))))))))))))))))))))))))))))))) .nil ?_
           refine W.cond rfl (fun hb23 => ?_) (fun hb23 => ?_)
           · have H := of_true H hb23
             refine W.rg env [2] [] ?_
             refine W.ret ?_
             refine At.rinb ?_
             refine At.rthen ?_
             refine At.rthen ?_
             refine At.rinb ?_
             refine At.rinb ?_
             refine At.rthen ?_
             refine At.rthen ?_
             refine At.rinb ?_
             refine At.rinb ?_
             refine At.rthen ?_
             refine At.rthen ?_
             refine At.rinb ?_
             refine At.rthen ?_
             cases H
             exact At.ret env.ty rfl rfl (fun q hq => by cases hq) (.refl _) hval
           · have H := of_false H hb23
             refine W.skip ?_
             refine At.inb ?_
             refine At.thenC ?_
             refine W.region env [] [] rfl rfl rfl (.cons (by unfold inI; have := hn13; (try unfold maxLen at this); omega) .nil) .nil (At.keep (ts := [0, 7, 8, 45, 46, 50, 51, 55, 56]) (ids := []) rfl rfl ?_)
             refine At.thenK (At.keep (ts := [0, 7, 8, 45, 46, 50, 51, 55, 56]) (ids := []) rfl rfl ?_)
             exact At.conv (.cons .q (.cons .qi (.cons .qi (.cons .qi (.cons .qi (.cons .qi (.cons .qi (.cons .qi (.cons .qi .nil))))))))) .nil (hK13 hi13 () H)
         · have H := H2 (by have := of_decide_eq_false hb14; omega)
           refine W.exit ?_
           refine At.xthen ?_
           refine At.xthen ?_
           refine At.xhere ?_
           refine At.inb ?_
           refine At.thenC ?_
           refine W.region env [] [] rfl rfl rfl (.cons (by unfold inI; have := hn11; (try unfold maxLen at this); omega) .nil) .nil (At.keep (ts := [0, 7, 45, 46, 50, 51]) (ids := []) rfl rfl ?_)
           refine At.thenK (At.keep (ts := [0, 7, 45, 46, 50, 51]) (ids := []) rfl rfl ?_)
           exact At.conv (.cons .q (.cons .qi (.cons .qi (.cons .qi (.cons .qi (.cons .qi .nil)))))) .nil (hK11 hi11 () H)
       · have H := H2 (by have := of_decide_eq_false hb12; omega)
         refine W.exit ?_
         refine At.xthen ?_
         refine At.xthen ?_
         refine At.xhere ?_
         refine At.inb ?_
         refine At.thenC ?_
         refine W.region env [] [] rfl rfl rfl (.cons (by unfold inI; have := hn9; (try unfold maxLen at this); omega) .nil) .nil (At.keep (ts := [0, 45, 46]) (ids := []) rfl rfl ?_)
         refine At.thenK (At.keep (ts := [0, 45, 46]) (ids := []) rfl rfl ?_)
         exact At.conv (.cons .q (.cons .qi (.cons .qi .nil))) .nil (hK9 hi9 () H)
     · have H := H2 (by have := of_decide_eq_false hb10; omega)
       refine W.exit ?_
       refine At.xthen ?_
       refine At.xthen ?_
       refine At.xhere ?_
       refine At.thenC ?_
       refine W.rg env [2] [] ?_
       refine W.ret ?_
       cases H
       exact At.ret env.ty rfl rfl (fun q hq => by cases hq) (.refl _) hval
theorem c_gasolierref01_Within (p0 : Int) (p1 : Int) (p2 : Int) : Ctr Tryz.prog 62 [.int .i64 (p0), .int .i64 (p1), .int .i64 (p2)] (.bool ((gasolierref01_Within p0 p1 p2))) := by
 obtain ⟨r, H⟩ : ∃ r, gasolierref01_Within p0 p1 p2 = r := ⟨_, rfl⟩
 rw [H]
 unfold gasolierref01_Within at H
 refine Ctr.of_body (N := 15) Tryz.func62 (by kernel_rfl) (c := _) rfl Tryz.ntmps62 rfl (fun w0 h0 hval => ?_)
 refine W.rg env [0, 1, 2] [] ?_
 refine W.sr env [] [] [6] [] rfl rfl rfl (.cons (fun h => h) (.cons (fun h => h) (.cons (fun h => h) .nil))) .nil ?_
 refine W.ret ?_
 cases H
 exact At.ret env.ty rfl rfl (fun q hq => by cases hq) (.refl _) hval
theorem c_gasolierref04_CheckTask (p0 : Task) : Ctr Tryz.prog 29 [.agg [.int .i64 (p0.Lamp), .int .i64 (p0.Place), .int .i64 (p0.At), .int .i64 (p0.Serve)]] (.int .i64 ((gasolierref04_CheckTask p0))) := by
 obtain ⟨r, H⟩ : ∃ r, gasolierref04_CheckTask p0 = r := ⟨_, rfl⟩
 rw [H]
 unfold gasolierref04_CheckTask at H
 refine Ctr.of_body (N := 25) Tryz.func29 (by kernel_rfl) (c := _) rfl Tryz.ntmps29 rfl (fun w0 h0 hval => ?_)
 refine W.rg env [1] [1] ?_
 refine W.seq ?_
 refine W.sr env [] [⟨.bool ((gasolierref01_Within p0.Lamp 1 999)), [], 0, []⟩, ⟨.bool ((gasolierref01_Within p0.Place 0 11)), [], 0, []⟩, ⟨.bool ((gasolierref01_Within p0.At 0 1439)), [], 0, []⟩, ⟨.bool ((gasolierref01_Within p0.Serve 1 120)), [], 0, []⟩] [24] [] rfl rfl rfl (.cons (fun h => h) (.cons (fun h => h) (.cons (fun h => h) (.cons (fun h => by rw [h]; rfl) (.cons (fun h => h) (.cons (fun h => h) (.cons (fun h => h) (.cons (fun h => by rw [h]; rfl) (.cons (fun h => h) (.cons (fun h => h) (.cons (fun h => h) (.cons (fun h => by rw [h]; rfl) .nil)))))))))))) (.free (c_gasolierref01_Within p0.Lamp 1 999) (.on (fun hW => c_gasolierref01_Within p0.Place 0 11) (.on (fun hW => c_gasolierref01_Within p0.At 0 1439) (.on (fun hW => c_gasolierref01_Within p0.Serve 1 120) .nil)))) ?_
 refine W.cond rfl (fun hb1 => ?_) (fun hb1 => ?_)
 · have H := of_true H hb1
   refine W.rg env [2] [] ?_
   refine W.ret ?_
   refine At.rthen ?_
   cases H
   exact At.ret env.ty rfl rfl (fun q hq => by cases hq) (.refl _) hval
 · have H := of_false H hb1
   refine W.skip ?_
   refine At.thenC ?_
   refine W.rg env [2] [] ?_
   refine W.ret ?_
   cases H
   exact At.ret env.ty rfl rfl (fun q hq => by cases hq) (.refl _) hval
theorem c_gasolierref04_CheckHand (p0 : Hand) : Ctr Tryz.prog 31 [.agg [.int .i64 (p0.Id), .int .i64 (p0.From), .int .i64 (p0.To)]] (.int .i64 ((gasolierref04_CheckHand p0))) := by
 obtain ⟨r, H⟩ : ∃ r, gasolierref04_CheckHand p0 = r := ⟨_, rfl⟩
 rw [H]
 unfold gasolierref04_CheckHand at H
 refine Ctr.of_body (N := 16) Tryz.func31 (by kernel_rfl) (c := _) rfl Tryz.ntmps31 rfl (fun w0 h0 hval => ?_)
 refine W.rg env [1] [1] ?_
 refine W.seq ?_
 refine W.sr env [] [⟨.bool ((gasolierref01_Within p0.Id 1 99)), [], 0, []⟩, ⟨.bool ((gasolierref01_IsRange (⟨p0.From, p0.To⟩ : Range) 0 1439)), [], 0, []⟩] [15] [] rfl rfl rfl (.cons (fun h => h) (.cons (fun h => h) (.cons (fun h => h) (.cons (fun h => h) (.cons (fun h => h) (.cons (fun h => h) (.cons (fun h => by rw [h]; rfl) .nil))))))) (.free (c_gasolierref01_Within p0.Id 1 99) (.on (fun hW => c_gasolierref01_IsRange (⟨p0.From, p0.To⟩ : Range) 0 1439) .nil)) ?_
 refine W.cond rfl (fun hb1 => ?_) (fun hb1 => ?_)
 · have H := of_true H hb1
   refine W.rg env [2] [] ?_
   refine W.ret ?_
   refine At.rthen ?_
   cases H
   exact At.ret env.ty rfl rfl (fun q hq => by cases hq) (.refl _) hval
 · have H := of_false H hb1
   refine W.skip ?_
   refine At.thenC ?_
   refine W.rg env [2] [] ?_
   refine W.ret ?_
   cases H
   exact At.ret env.ty rfl rfl (fun q hq => by cases hq) (.refl _) hval
theorem c_gasolierref04_Check (p0 : Crew) {r : Int} (H : gasolierref04_Check p0 = some r) : Ctr Tryz.prog 33 [.agg [roL 4 enc_Task p0.Tasks, roL 1 enc_ListRange p0.Travel, roL 3 enc_Hand p0.Hands]] (.int .i64 (r)) := by
 unfold gasolierref04_Check at H
 refine Ctr.of_body (N := 87) Tryz.func33 (by kernel_rfl) (c := _) rfl Tryz.ntmps33 rfl (fun w0 h0 hval => ?_)
 refine W.rg env [1] [1] ?_
 refine W.seq ?_
 refine W.seq ?_
 obtain ⟨y1, hy2, H⟩ := of_bindO H
 refine W.region env [] [⟨.bool (y1), [], 0, []⟩] rfl rfl rfl (.cons (fun h => h) (.cons (fun h => h) (.cons (fun h => h) (.cons (fun h => by rw [h]; rfl) (.cons (fun h => h) (.cons (fun h => h) (.cons (fun h => h) (.cons (fun h => by rw [h]; rfl) .nil)))))))) (.on (fun hW => c_gasolierref04_isTravel p0.Travel (of_true hy2 hW)) .nil) (At.keep (ts := [1, 22]) (ids := [1]) rfl rfl ?_)
 refine At.thenC ?_
 refine W.cond rfl (fun hb3 => ?_) (fun hb3 => ?_)
 · have H := of_true H hb3
   refine W.rg env [2] [] ?_
   refine W.ret ?_
   refine At.rthen ?_
   cases H
   exact At.ret env.ty rfl rfl (fun q hq => by cases hq) (.refl _) hval
 · have H := of_false H hb3
   refine W.skip ?_
   refine At.thenC ?_
   refine W.seq ?_
   refine W.rg env [1, 24, 25, 26] [1] ?_
   refine W.block ?_
   refine At.keep (ts := [1, 24, 25, 26]) (ids := [1]) rfl rfl ?_
   refine W.len (t := 24) rfl (fun (hn4 : p0.Tasks.length ≤ maxLen) => ?_)
   refine W.rangeGo H (fun i4 (s4 : Unit) => [(1, .lp 1 0), (24, roL 4 enc_Task p0.Tasks), (25, .int .i64 (((p0.Tasks.length : Nat) : Int))), (26, .int .i64 ((i4 : Int)))]) (fun i4 (s4 : Unit) => [(1, .cells [roL 4 enc_Task p0.Tasks, roL 1 enc_ListRange p0.Travel, roL 3 enc_Hand p0.Hands])]) (.cons .q (.cons .q (.cons .qi (.cons .qi .nil)))) (.cons .q .nil) (fun k4 i4 s4 hle4 H1 H2 K0 hK4 => ?_)
   refine W.rg env [1, 24, 25, 26, 27] [1] ?_
   refine W.seq ?_
   refine W.cond rfl (fun hb5 => ?_) (fun hb5 => ?_)
   · have hi4 : i4 < p0.Tasks.length := by have := of_decide_eq_true hb5; omega
     have H := H1 hi4
     refine W.skip ?_
     refine At.thenC ?_
     refine W.seq ?_
     refine W.block ?_
     refine W.sr env [] [] [1, 3, 4, 24, 25, 26] [1, 4] rfl rfl rfl (.cons (⟨by omega, by omega⟩ : 0 ≤ (i4 : Int) ∧ (i4 : Int) < ((p0.Tasks.length : Nat) : Int)) .nil) .nil ?_
     obtain ⟨hc6, H⟩ := of_must H
     obtain ⟨hc7, H⟩ := of_must H
     refine W.sr env [] [⟨.int .i64 ((gasolierref04_CheckTask (p0.Tasks.getD i4 default))), [], 0, []⟩] [1, 24, 25, 26, 57] [1] rfl rfl (by kernel_rfl) (.cons (fun h => h) (.cons (fun h => h) (.cons (fun h => h) (.cons (fun h => h) (.cons (fun h => h) (.cons (fun h => by rw [h]; rfl) (.cons (fun h => h) (.cons (fun h => h) (.cons (fun h => h) (.cons hc6 (.cons (fun h => h) (.cons hc7 (.cons (fun h => h) (.cons (fun h => h) (.cons (fun h => h) (.cons (fun h => h) (.cons (fun h => h) (.cons (fun h => h) (.cons (fun h => h) (.cons (fun h => h) (.cons (fun hW h => by revert hW h; first | (simp +contextual; done) | grind) (.cons (fun h => by rw [h]; rfl) .nil)))))))))))))))))))))) (.free (c_gasolierref04_CheckTask (p0.Tasks.getD i4 default)) .nil) ?_
     refine W.cond rfl (fun hb8 => ?_) (fun hb8 => ?_)
     · have H := of_true H hb8
       refine W.rg env [2] [] ?_
       refine W.ret ?_
       refine At.rinb ?_
       refine At.rthen ?_
       refine At.rthen ?_
       refine At.rinb ?_
       refine At.rthen ?_
       cases H
       exact At.ret env.ty rfl rfl (fun q hq => by cases hq) (.refl _) hval
     · have H := of_false H hb8
       refine W.skip ?_
       refine At.inb ?_
       refine At.thenC ?_
       refine W.region env [] [] rfl rfl rfl (.cons (by unfold inI; have := hn4; (try unfold maxLen at this); omega) .nil) .nil (At.keep (ts := [1, 24, 25, 26]) (ids := [1]) rfl rfl ?_)
       refine At.thenK (At.keep (ts := [1, 24, 25, 26]) (ids := [1]) rfl rfl ?_)
       exact At.conv (.cons .q (.cons .q (.cons .qi (.cons .qi .nil)))) (.cons .q .nil) (hK4 hi4 () H)
   · have H := H2 (by have := of_decide_eq_false hb5; omega)
     refine W.exit ?_
     refine At.xthen ?_
     refine At.xthen ?_
     refine At.xhere ?_
     refine At.thenC ?_
     refine W.seq ?_
     refine W.rg env [1, 60, 61, 62] [1] ?_
     refine W.block ?_
     refine At.keep (ts := [1, 60, 61, 62]) (ids := [1]) rfl rfl ?_
     refine W.len (t := 60) rfl (fun (hn9 : p0.Hands.length ≤ maxLen) => ?_)
     refine W.rangeGo H (fun i9 (s9 : Unit) => [(1, .lp 1 0), (60, roL 3 enc_Hand p0.Hands), (61, .int .i64 (((p0.Hands.length : Nat) : Int))), (62, .int .i64 ((i9 : Int)))]) (fun i9 (s9 : Unit) => [(1, .cells [roL 4 enc_Task p0.Tasks, roL 1 enc_ListRange p0.Travel, roL 3 enc_Hand p0.Hands])]) (.cons .q (.cons .q (.cons .qi (.cons .qi .nil)))) (.cons .q .nil) (fun k9 i9 s9 hle9 H1 H2 K0 hK9 => ?_)
     refine W.rg env [1, 60, 61, 62, 63] [1] ?_
     refine W.seq ?_
     refine W.cond rfl (fun hb10 => ?_) (fun hb10 => ?_)
     · have hi9 : i9 < p0.Hands.length := by have := of_decide_eq_true hb10; omega
       have H := H1 hi9
       refine W.skip ?_
       refine At.thenC ?_
       refine W.seq ?_
       refine W.block ?_
       refine W.sr env [] [] [1, 5, 6, 60, 61, 62] [1, 6] rfl rfl rfl (.cons (⟨by omega, by omega⟩ : 0 ≤ (i9 : Int) ∧ (i9 : Int) < ((p0.Hands.length : Nat) : Int)) .nil) .nil ?_
       obtain ⟨hc11, H⟩ := of_must H
       obtain ⟨hc12, H⟩ := of_must H
       refine W.sr env [] [⟨.int .i64 ((gasolierref04_CheckHand (p0.Hands.getD i9 default))), [], 0, []⟩] [1, 60, 61, 62, 85] [1] rfl rfl (by kernel_rfl) (.cons (fun h => h) (.cons (fun h => h) (.cons (fun h => h) (.cons hc11 (.cons (fun h => h) (.cons hc12 (.cons (fun h => h) (.cons (fun h => h) (.cons (fun h => h) (.cons (fun h => h) (.cons (fun h => h) (.cons (fun h => h) (.cons (fun h => h) (.cons (fun h => h) (.cons (fun hW h => by revert hW h; first | (simp +contextual; done) | grind) (.cons (fun h => by rw [h]; rfl) .nil)))))))))))))))) (.free (c_gasolierref04_CheckHand (p0.Hands.getD i9 default)) .nil) ?_
       refine W.cond rfl (fun hb13 => ?_) (fun hb13 => ?_)
       · have H := of_true H hb13
         refine W.rg env [2] [] ?_
         refine W.ret ?_
         refine At.rinb ?_
         refine At.rthen ?_
         refine At.rthen ?_
         refine At.rinb ?_
         refine At.rthen ?_
         cases H
         exact At.ret env.ty rfl rfl (fun q hq => by cases hq) (.refl _) hval
       · have H := of_false H hb13
         refine W.skip ?_
         refine At.inb ?_
         refine At.thenC ?_
         refine W.region env [] [] rfl rfl rfl (.cons (by unfold inI; have := hn9; (try unfold maxLen at this); omega) .nil) .nil (At.keep (ts := [1, 60, 61, 62]) (ids := [1]) rfl rfl ?_)
         refine At.thenK (At.keep (ts := [1, 60, 61, 62]) (ids := [1]) rfl rfl ?_)
         exact At.conv (.cons .q (.cons .q (.cons .qi (.cons .qi .nil)))) (.cons .q .nil) (hK9 hi9 () H)
     · have H := H2 (by have := of_decide_eq_false hb10; omega)
       refine W.exit ?_
       refine At.xthen ?_
       refine At.xthen ?_
       refine At.xhere ?_
       refine At.thenC ?_
       refine W.rg env [2] [] ?_
       refine W.ret ?_
       cases H
       exact At.ret env.ty rfl rfl (fun q hq => by cases hq) (.refl _) hval
theorem c_gasolierref04_Copy (p0 : Crew) {r : Crew} (H : gasolierref04_Copy p0 = some r) : Ctr Tryz.prog 72 [.agg [roL 4 enc_Task p0.Tasks, roL 1 enc_ListRange p0.Travel, roL 3 enc_Hand p0.Hands]] (.agg [roL 4 enc_Task r.Tasks, roL 1 enc_ListRange r.Travel, roL 3 enc_Hand r.Hands]) := by
 unfold gasolierref04_Copy at H
 refine Ctr.of_body (N := 32) Tryz.func72 (by kernel_rfl) (c := _) rfl Tryz.ntmps72 rfl (fun w0 h0 hval => ?_)
 refine W.rg env [1, 2] [1, 2] ?_
 refine W.seq ?_
 obtain ⟨hc1, H⟩ := of_must H
 obtain ⟨hc2, H⟩ := of_must H
 refine W.region env [6, 10] [] rfl rfl (by first | rfl | kernel_rfl) (.cons (⟨by first | rfl | (simp; done) | omega | (simp; omega), by have := hc1; first | simpa using this | (unfold room at this ⊢; simp at this ⊢; omega)⟩) (.cons (⟨by first | rfl | (simp; done) | omega | (simp; omega), by have := hc2; first | simpa using this | (unfold room at this ⊢; simp at this ⊢; omega)⟩) .nil)) .nil (At.keep (ts := [1, 2, 3]) (ids := [1, 2, 3, 6, 10]) rfl rfl ?_)
 refine At.convM (.cons (.refl _) (.cons (.refl _) (.cons (.refl _) (.cons (y := bufL 41 4 enc_Task (([] : List Task) ++ p0.Tasks)) (BSim.seg (Seg.push (Seg.lit (f := enc_Task) (sz := 4) ([] : List Task) rfl rfl (fun _ => rfl)) (Seg.refl enc_Task p0.Tasks))) (.cons (y := bufL 43 3 enc_Hand (([] : List Hand) ++ p0.Hands)) (BSim.seg (Seg.push (Seg.lit (f := enc_Hand) (sz := 3) ([] : List Hand) rfl rfl (fun _ => rfl)) (Seg.refl enc_Hand p0.Hands))) .nil))))) ?_
 refine At.thenC ?_
 refine W.seq ?_
 refine W.rg env [2, 3, 16, 17, 18] [2, 3, 6, 10] ?_
 refine W.block ?_
 refine At.nilOwnCell 3 1 751 106 1 (e := fun i => enc_ListRange (([] : List (List Range)).getD i default)) rfl rfl rfl ?_
 refine At.keep (ts := [2, 3, 16, 17, 18]) (ids := [2, 3, 6, 10, 751]) rfl rfl ?_
 refine W.len (t := 16) rfl (fun (hn3 : p0.Travel.length ≤ maxLen) => ?_)
 refine W.rangeGo H (fun i3 (s3 : (List (List Range))) => [(2, .lp 2 0), (3, .lp 3 0), (16, roL 1 enc_ListRange p0.Travel), (17, .int .i64 (((p0.Travel.length : Nat) : Int))), (18, .int .i64 ((i3 : Int)))]) (fun i3 (s3 : (List (List Range))) => [(2, .cells [.nilS, .nilS, .nilS]), (3, .cells [.buf 6 ((([] : List Task) ++ p0.Tasks)).length, .buf 751 (s3).length, .buf 10 ((([] : List Hand) ++ p0.Hands)).length]), (6, bufL 41 4 enc_Task (([] : List Task) ++ p0.Tasks)), (10, bufL 43 3 enc_Hand (([] : List Hand) ++ p0.Hands)), (751, bufL 106 1 enc_ListRange s3)]) (.cons .q (.cons .q (.cons .q (.cons .qi (.cons .qi .nil))))) (.cons .q (.cons (BSim.cells (.cons .qc (.cons .qc (.cons .qc .nil)))) (.cons .q (.cons .q (.cons .q .nil))))) (fun k3 i3 s3 hle3 H1 H2 K0 hK3 => ?_)
 refine W.rg env [2, 3, 16, 17, 18, 19] [2, 3, 6, 10, 751] ?_
 refine W.seq ?_
 refine W.cond rfl (fun hb4 => ?_) (fun hb4 => ?_)
 · have hi3 : i3 < p0.Travel.length := by have := of_decide_eq_true hb4; omega
   have H := H1 hi3
   refine W.skip ?_
   refine At.thenC ?_
   refine W.seq ?_
   refine W.block ?_
   refine W.sr env [] [] [2, 3, 5, 16, 17, 18] [2, 3, 6, 10, 751] rfl rfl rfl (.cons (⟨by omega, by omega⟩ : 0 ≤ (i3 : Int) ∧ (i3 : Int) < ((p0.Travel.length : Nat) : Int)) .nil) .nil ?_
   obtain ⟨hc5, H⟩ := of_must H
   obtain ⟨hc6, H⟩ := of_must H
   refine W.region env [24, 16777242] [] rfl rfl (by first | rfl | kernel_rfl) (.cons (⟨(by first | rfl | (simp; done) | omega | (simp; omega)), (⟨by first | rfl | (simp; done) | omega | (simp; omega), by have := hc5; first | simpa using this | (unfold room at this ⊢; simp at this ⊢; omega)⟩)⟩) (.cons (⟨by first | rfl | (simp; done) | omega | (simp; omega), by have := hc6; first | simpa using this | (unfold room at this ⊢; simp at this ⊢; omega)⟩) .nil)) .nil (At.keep (ts := [2, 3, 16, 17, 18]) (ids := [2, 3, 6, 10, 751]) rfl rfl ?_)
   refine At.convM (.cons (.refl _) (.cons (.refl _) (.cons (.refl _) (.cons (.refl _) (.cons (y := bufL 106 1 enc_ListRange (s3 ++ ([(([] : List Range) ++ (p0.Travel.getD i3 default))] : List (List Range)))) (BSim.pushS (f := enc_ListRange) (sz := 1) (Seg.refl enc_ListRange _) ([(([] : List Range) ++ (p0.Travel.getD i3 default))] : List (List Range)) (.cons (Sim.seg (Seg.push (Seg.lit (f := enc_Range) (sz := 2) ([] : List Range) rfl rfl (fun _ => rfl)) (Seg.refl enc_Range (p0.Travel.getD i3 default)))) .nil) rfl rfl (fun _ => rfl)) .nil))))) ?_
   refine At.inb ?_
   refine At.thenC ?_
   refine W.region env [] [] rfl rfl rfl (.cons (by unfold inI; have := hn3; (try unfold maxLen at this); omega) .nil) .nil (At.keep (ts := [2, 3, 16, 17, 18]) (ids := [2, 3, 6, 10, 751]) rfl rfl ?_)
   refine At.thenK (At.keep (ts := [2, 3, 16, 17, 18]) (ids := [2, 3, 6, 10, 751]) rfl rfl ?_)
   exact At.conv (.cons .q (.cons .q (.cons .q (.cons .qi (.cons .qi .nil))))) (.cons .q (.cons (BSim.cells (.cons .qc (.cons .qc (.cons .qc .nil)))) (.cons .q (.cons .q (.cons .q .nil))))) (hK3 hi3 (s3 ++ ([(([] : List Range) ++ (p0.Travel.getD i3 default))] : List (List Range))) H)
 · have H := H2 (by have := of_decide_eq_false hb4; omega)
   refine W.exit ?_
   refine At.xthen ?_
   refine At.xthen ?_
   refine At.xhere ?_
   refine At.thenC ?_
   refine W.rg env [2] [2, 6, 10, 751] ?_
   refine W.ret ?_
   cases H
   exact At.ret env.ty rfl rfl (fun q hq => by cases hq; exact ⟨by first | rfl | (simp; done) | omega | (simp; omega), ⟨by first | rfl | (simp; done) | omega | (simp; omega), (by first | rfl | (simp; done) | omega | (simp; omega))⟩⟩) (.refl _) hval
theorem c_gasolierref04_With (fuel : Nat) (p0 : Crew) (p1 : Task) {r : (Crew × Int)} (H : gasolierref04_With fuel p0 p1 = some r) : Ctr Tryz.prog 20 [.agg [roL 4 enc_Task p0.Tasks, roL 1 enc_ListRange p0.Travel, roL 3 enc_Hand p0.Hands], .agg [.int .i64 (p1.Lamp), .int .i64 (p1.Place), .int .i64 (p1.At), .int .i64 (p1.Serve)]] (.tup [.agg [roL 4 enc_Task r.1.Tasks, roL 1 enc_ListRange r.1.Travel, roL 3 enc_Hand r.1.Hands], .int .i64 (r.2)]) := by
 unfold gasolierref04_With at H
 refine Ctr.of_body (N := 86) Tryz.func20 (by kernel_rfl) (c := _) rfl Tryz.ntmps20 rfl (fun w0 h0 hval => ?_)
 refine W.rg env [2, 3, 4] [2, 3, 4] ?_
 refine W.seq ?_
 refine W.seq ?_
 obtain ⟨y1, hy2, H⟩ := of_bindO H
 refine W.region env [] [⟨.int .i64 (y1), [], 0, []⟩] rfl rfl rfl .nil (.free (c_gasolierref04_Check p0 hy2) .nil) (At.keep (ts := [2, 3, 4, 6]) (ids := [2, 3, 4]) rfl rfl ?_)
 refine At.thenC ?_
 refine W.rg env [2, 3, 4, 6, 12] [2, 3, 4] ?_
 refine W.cond rfl (fun hb3 => ?_) (fun hb3 => ?_)
 · have H := of_true H hb3
   refine W.rg env [4, 5] [4] ?_
   refine W.ret ?_
   refine At.rthen ?_
   cases H
   exact At.ret env.ty rfl rfl (fun q hq => by cases hq) (Sim.tupL (.cons (Sim.aggL (.cons (Sim.nil _ _) (.cons (Sim.nil _ _) (.cons (Sim.nil _ _) .nil)))) (.cons (.refl _) .nil))) hval
 · have H := of_false H hb3
   refine W.skip ?_
   refine At.thenC ?_
   refine W.rg env [2, 3, 4, 7] [2, 3, 4] ?_
   refine W.seq ?_
   refine W.block ?_
   refine At.keep (ts := [2, 3, 4, 7]) (ids := [2, 3, 4]) rfl rfl ?_
   refine W.loopGo H (fun (s4 : Int) => [(2, .lp 2 0), (3, .lp 3 0), (4, .lp 4 0), (7, .int .i64 (s4))]) (fun (s4 : Int) => [(2, .cells [roL 4 enc_Task p0.Tasks, roL 1 enc_ListRange p0.Travel, roL 3 enc_Hand p0.Hands]), (3, .cells [.int .i64 (p1.Lamp), .int .i64 (p1.Place), .int .i64 (p1.At), .int .i64 (p1.Serve)]), (4, .cells [.nilS, .nilS, .nilS])]) (.cons .q (.cons .q (.cons .q (.cons .qi .nil)))) (.cons .q (.cons .q (.cons .q .nil))) (fun k4 s4 H K0 hK4 => ?_)
   refine W.seq ?_
   obtain ⟨hc5, H⟩ := of_must H
   refine W.sr env [] [] [2, 3, 4, 7, 30] [2, 3, 4] rfl rfl (by first | rfl | kernel_rfl) (.cons (fun h => h) (.cons hc5 (.cons (fun h => h) (.cons (fun h => h) (.cons (fun h => h) (.cons (fun h => h) (.cons (fun h => h) (.cons (fun h => h) (.cons (fun h => h) (.cons (fun h => h) .nil)))))))))) .nil ?_
   refine W.cond rfl (fun hb6 => ?_) (fun hb6 => ?_)
   · have H := of_true H hb6
     refine W.skip ?_
     refine At.thenC ?_
     refine W.block ?_
     obtain ⟨hc7, H⟩ := of_must H
     refine W.region env [] [] rfl rfl rfl (.cons hc7 .nil) .nil (At.keep (ts := [2, 3, 4, 7]) (ids := [2, 3, 4]) rfl rfl ?_)
     refine At.inb ?_
     refine At.thenK (At.keep (ts := [2, 3, 4, 7]) (ids := [2, 3, 4]) rfl rfl ?_)
     exact At.conv (.cons .q (.cons .q (.cons .q (.cons .qi .nil)))) (.cons .q (.cons .q (.cons .q .nil))) (hK4 (s4 + 1) H)
   · have H := of_false H hb6
     refine W.exit ?_
     refine At.xthen ?_
     refine At.xthen ?_
     refine At.xhere ?_
     refine At.thenC ?_
     refine W.seq ?_
     obtain ⟨hc8, H⟩ := of_must H
     refine W.sr env [] [⟨.int .i64 ((gasolierref04_CheckTask p1)), [], 0, []⟩] [2, 3, 4, 7, 61] [2, 3, 4] rfl rfl (by kernel_rfl) (.cons (fun h => h) (.cons (fun h => h) (.cons (fun h => h) (.cons (fun h => h) (.cons (fun h => h) (.cons (fun h => by rw [h]; rfl) (.cons (fun h => h) (.cons (fun h => h) (.cons (fun h => h) (.cons (fun h => h) (.cons (fun h => h) (.cons (fun h => h) (.cons hc8 (.cons (fun h => h) (.cons (fun h => h) (.cons (fun h => h) (.cons (fun h => h) (.cons (fun h => h) (.cons (fun h => h) (.cons (fun h => h) (.cons (fun h => h) (.cons (fun hW h => by revert hW h; first | (simp +contextual; done) | grind) (.cons (fun h => by rw [h]; rfl) .nil))))))))))))))))))))))) (.free (c_gasolierref04_CheckTask p1) .nil) ?_
     refine W.cond rfl (fun hb9 => ?_) (fun hb9 => ?_)
     · have H := of_true H hb9
       refine W.rg env [4, 5] [4] ?_
       refine W.ret ?_
       refine At.rthen ?_
       cases H
       exact At.ret env.ty rfl rfl (fun q hq => by cases hq) (Sim.tupL (.cons (Sim.aggL (.cons (Sim.nil _ _) (.cons (Sim.nil _ _) (.cons (Sim.nil _ _) .nil)))) (.cons (.refl _) .nil))) hval
     · have H := of_false H hb9
       refine W.skip ?_
       refine At.thenC ?_
       refine W.seq ?_
       refine W.rg env [2, 3, 4, 7, 66] [2, 3, 4] ?_
       refine W.cond rfl (fun hb10 => ?_) (fun hb10 => ?_)
       · have H := of_true H hb10
         refine W.rg env [4, 5] [4] ?_
         refine W.ret ?_
         refine At.rthen ?_
         cases H
         exact At.ret env.ty rfl rfl (fun q hq => by cases hq) (Sim.tupL (.cons (Sim.aggL (.cons (Sim.nil _ _) (.cons (Sim.nil _ _) (.cons (Sim.nil _ _) .nil)))) (.cons (.refl _) .nil))) hval
       · have H := of_false H hb10
         refine W.skip ?_
         refine At.thenC ?_
         refine W.seq ?_
         obtain ⟨y11, hy12, H⟩ := of_bindO H
         refine W.region env [] [⟨.agg [roL 4 enc_Task y11.Tasks, roL 1 enc_ListRange y11.Travel, roL 3 enc_Hand y11.Hands], [], 0, []⟩] rfl rfl rfl .nil (.free (c_gasolierref04_Copy p0 hy12) .nil) (At.keep (ts := [2, 3, 4, 7, 8]) (ids := [2, 3, 4, 8]) rfl rfl ?_)
         refine At.thenC ?_
         refine W.seq ?_
         obtain ⟨hc13, H⟩ := of_must H
         obtain ⟨hc14, H⟩ := of_must H
         obtain ⟨hc15, H⟩ := of_must H
         obtain ⟨hc16, H⟩ := of_must H
         obtain ⟨hc17, H⟩ := of_must H
         refine W.region env [70] [] rfl rfl (by first | rfl | kernel_rfl) (.cons hc13 (.cons (⟨by first | rfl | (simp; done) | omega | (simp; omega), by have := hc14; first | simpa using this | (unfold room at this ⊢; simp at this ⊢; omega)⟩) (.cons (⟨by first | rfl | (simp; done) | omega | (simp; omega), by have := hc15; first | simpa using this | (unfold room at this ⊢; simp at this ⊢; omega)⟩) (.cons hc16 (.cons (⟨by first | rfl | (simp; done) | omega | (simp; omega), by have := hc17; first | simpa using this | (unfold room at this ⊢; simp at this ⊢; omega)⟩) .nil))))) .nil (At.keep (ts := [4, 8]) (ids := [4, 8, 70]) rfl rfl ?_)
         refine At.convM (.cons (.refl _) (.cons (.refl _) (.cons (y := bufL 41 4 enc_Task (((([] : List Task) ++ (p0.Tasks.take (s4).toNat)) ++ ([p1] : List Task)) ++ (p0.Tasks.drop (s4).toNat))) (BSim.seg (Seg.push (Seg.push (Seg.push (Seg.lit (f := enc_Task) (sz := 4) ([] : List Task) rfl rfl (fun _ => rfl)) (Seg.take enc_Task p0.Tasks ((s4).toNat) (by omega))) (Seg.lit (f := enc_Task) (sz := 4) ([p1] : List Task) rfl rfl (fun _ => rfl))) (Seg.drop enc_Task p0.Tasks ((s4).toNat)))) .nil))) ?_
         refine At.thenC ?_
         refine W.rg env [4, 5] [4, 70] ?_
         refine W.ret ?_
         cases H
         exact At.ret env.ty rfl rfl (fun q hq => by cases hq; exact (by first | rfl | (simp; done) | omega | (simp; omega))) (.refl _) hval
theorem co_slices_Delete_Task (p0 : (List Task)) (p1 : Int) (p2 : Int) {r : (List Task)} (H : slices_Delete_Task p0 p1 p2 = some r) : CtrO Tryz.prog 54 [.buf 700 (p0).length, .int .i64 (p1), .int .i64 (p2)] [(700, bufL 41 4 enc_Task p0)] (.buf 900 r.length) [(900, bufL 41 4 enc_Task r)] := by
 unfold slices_Delete_Task at H
 refine CtrO.of_body (N := 33) Tryz.func54 (by kernel_rfl) (c := _) rfl Tryz.ntmps54 rfl (fun w0 h0 ρb hval hdom => ?_)
 refine W.rg env [0, 1, 2] [700] ?_
 obtain ⟨hc1, H⟩ := of_must H
 refine W.sr env [] [] [0, 1, 2] [700] rfl rfl rfl (.cons (by first | rfl | (simp; done) | omega | (simp; omega)) (.cons (⟨by first | rfl | (simp; done) | omega | (simp; omega), hc1⟩) .nil)) .nil ?_
 refine W.seq ?_
 refine W.rg env [0, 1, 2, 16] [700] ?_
 refine W.cond rfl (fun hb2 => ?_) (fun hb2 => ?_)
 · have H := of_true H hb2
   refine W.rg env [6] [700] ?_
   refine W.ret ?_
   refine At.rthen ?_
   cases H
   exact At.retK env.ty [700] 200 rfl rfl rfl rfl (.cons (.refl _) .nil) (.of_eq (by refine bufEq ?_; first | (simp [copyAt]; done) | omega | (simp [copyAt]; omega) | rfl)) hval hdom rfl
 · have H := of_false H hb2
   refine W.skip ?_
   refine At.thenC ?_
   refine W.sr env [] [] [0, 1, 2, 7] [700] rfl rfl rfl (.cons (by first | rfl | (simp; done) | omega | (simp; omega)) .nil) .nil ?_
   refine W.seq ?_
   obtain ⟨hc3, H⟩ := of_must H
   obtain ⟨hc4, H⟩ := of_must H
   obtain ⟨hc5, H⟩ := of_must H
   refine W.region env [] [] rfl rfl (by first | rfl | kernel_rfl) (.cons (⟨by first | rfl | (simp; done) | omega | (simp; omega), hc3⟩) (.cons (⟨by first | rfl | (simp; done) | omega | (simp; omega), hc4⟩) (.cons (⟨rfl, rfl, by omega, by omega, by omega⟩) .nil))) .nil (At.keep (ts := [0, 7]) (ids := [26]) rfl rfl ?_)
   refine At.convM (.cons (y := bufkL 41 4 p0.length enc_Task (p0.take ((p1).toNat) ++ p0.drop ((p2).toNat))) (BSim.kseg (Seg.moved (f := enc_Task) (l := p0) ((p1).toNat) ((p2).toNat) (by omega) (by omega))) .nil) ?_
   refine At.thenC ?_
   refine W.seq ?_
   obtain ⟨hc6, H⟩ := of_must H
   refine W.region env [] [] rfl rfl rfl (.cons (by first | rfl | (simp; done) | omega | (simp; omega)) (.cons (⟨by first | rfl | (simp; done) | omega | (simp; omega), hc6⟩) (.cons (⟨by first | rfl | (simp; done) | omega | (simp; omega), by first | rfl | (simp; done) | omega | (simp; omega), by first | omega | (simp; omega)⟩) .nil))) .nil (At.keep (ts := [0]) (ids := [26]) rfl rfl ?_)
   refine At.convM (.cons (y := bufkL 41 4 p0.length enc_Task (p0.take ((p1).toNat) ++ p0.drop ((p2).toNat))) (BSim.kseg (Seg.refl enc_Task _)) .nil) ?_
   refine At.thenC ?_
   refine W.rg env [6] [26] ?_
   refine W.ret ?_
   cases H
   exact At.retK env.ty [26] 874 rfl rfl rfl rfl (.cons (.bufk (.refl _)) .nil) (.of_eq (by refine bufEq ?_; first | (simp [copyAt]; done) | omega | (simp [copyAt]; omega) | rfl)) hval hdom rfl
theorem c_crew_Without (fuel : Nat) (p0 : Crew) (p1 : Int) {r : (Crew × Int)} (H : crew_Without fuel p0 p1 = some r) : Ctr Tryz.prog 21 [.agg [roL 4 enc_Task p0.Tasks, roL 1 enc_ListRange p0.Travel, roL 3 enc_Hand p0.Hands], .int .i64 (p1)] (.tup [.agg [roL 4 enc_Task r.1.Tasks, roL 1 enc_ListRange r.1.Travel, roL 3 enc_Hand r.1.Hands], .int .i64 (r.2)]) := by
 unfold crew_Without at H
 refine Ctr.of_body (N := 35) Tryz.func21 (by kernel_rfl) (c := _) rfl Tryz.ntmps21 rfl (fun w0 h0 hval => ?_)
 refine W.rg env [1, 2, 4] [2, 4] ?_
 refine W.seq ?_
 refine W.seq ?_
 obtain ⟨y1, hy2, H⟩ := of_bindO H
 refine W.region env [] [⟨.int .i64 (y1), [], 0, []⟩] rfl rfl rfl .nil (.free (c_crew_Check p0 hy2) .nil) (At.keep (ts := [1, 2, 4, 6]) (ids := [2, 4]) rfl rfl ?_)
 refine At.thenC ?_
 refine W.rg env [1, 2, 4, 6, 13] [2, 4] ?_
 refine W.cond rfl (fun hb3 => ?_) (fun hb3 => ?_)
 · have H := of_true H hb3
   refine W.rg env [4, 5] [4] ?_
   refine W.ret ?_
   refine At.rthen ?_
   cases H
   exact At.ret env.ty rfl rfl (fun q hq => by cases hq) (Sim.tupL (.cons (Sim.aggL (.cons (Sim.nil _ _) (.cons (Sim.nil _ _) (.cons (Sim.nil _ _) .nil)))) (.cons (.refl _) .nil))) hval
 · have H := of_false H hb3
   refine W.skip ?_
   refine At.thenC ?_
   refine W.seq ?_
   obtain ⟨y4, hy5, H⟩ := of_bindO H
   refine W.region env [] [⟨.tup [.int .i64 (y4.1), .bool (y4.2)], [], 0, []⟩] rfl rfl rfl .nil (.free (c_crew_find fuel p0 p1 hy5) .nil) (At.keep (ts := [2, 4, 7, 8]) (ids := [2, 4]) rfl rfl ?_)
   refine At.thenC ?_
   refine W.seq ?_
   refine W.rg env [2, 4, 7, 23] [2, 4] ?_
   refine W.cond rfl (fun hb6 => ?_) (fun hb6 => ?_)
   · have H := of_true H hb6
     refine W.rg env [4, 5] [4] ?_
     refine W.ret ?_
     refine At.rthen ?_
     cases H
     exact At.ret env.ty rfl rfl (fun q hq => by cases hq) (Sim.tupL (.cons (Sim.aggL (.cons (Sim.nil _ _) (.cons (Sim.nil _ _) (.cons (Sim.nil _ _) .nil)))) (.cons (.refl _) .nil))) hval
   · have H := of_false H hb6
     refine W.skip ?_
     refine At.thenC ?_
     refine W.seq ?_
     obtain ⟨y7, hy8, H⟩ := of_bindO H
     refine W.region env [] [⟨.agg [.buf 940 (y7.Tasks).length, .buf 941 (y7.Travel).length, roL 3 enc_Hand y7.Hands], [(940, bufL 41 4 enc_Task y7.Tasks), (941, bufL 106 1 enc_ListRange y7.Travel)], 27000, []⟩] rfl rfl (by kernel_rfl) .nil (.free ((Ctr.ofO (co_crew_copied_o0_1 p0 hy8))) .nil) (At.keep (ts := [4, 7, 9]) (ids := [4, 9, 27940, 27941]) rfl rfl ?_)
     refine At.thenC ?_
     refine W.seq ?_
     obtain ⟨hc9, H⟩ := of_must H
     obtain ⟨y10, hy11, H⟩ := of_bindO H
     refine W.region env [] [⟨.buf 900 y10.length, [(27940, .dead), (900, bufL 41 4 enc_Task y10)], 33000, []⟩] rfl rfl (by kernel_rfl) (.cons hc9 .nil) (.free (CtrO.sim (CtrO.at (co_slices_Delete_Task y7.Tasks y4.1 (y4.1 + 1) hy11) rfl 27940) (.cons .qc (.cons (.refl _) (.cons (.refl _) .nil))) (.cons (.refl _) .nil)) .nil) (At.keep (ts := [4, 9]) (ids := [4, 9, 27941, 33900]) rfl rfl ?_)
     refine At.thenC ?_
     refine W.rg env [4, 5] [4, 27941, 33900] ?_
     refine W.ret ?_
     cases H
     exact At.ret env.ty rfl rfl (fun q hq => by cases hq; exact ⟨by first | rfl | (simp; done) | omega | (simp; omega), (by first | rfl | (simp; done) | omega | (simp; omega))⟩) (.refl _) hval
theorem c_gasolierref04_Without (p0 : Crew) (p1 : Int) {r : (Crew × Int)} (H : gasolierref04_Without p0 p1 = some r) : Ctr Tryz.prog 22 [.agg [roL 4 enc_Task p0.Tasks, roL 1 enc_ListRange p0.Travel, roL 3 enc_Hand p0.Hands], .int .i64 (p1)] (.tup [.agg [roL 4 enc_Task r.1.Tasks, roL 1 enc_ListRange r.1.Travel, roL 3 enc_Hand r.1.Hands], .int .i64 (r.2)]) := by
 unfold gasolierref04_Without at H
 refine Ctr.of_body (N := 46) Tryz.func22 (by kernel_rfl) (c := _) rfl Tryz.ntmps22 rfl (fun w0 h0 hval => ?_)
 refine W.rg env [1, 2, 4] [2, 4] ?_
 refine W.seq ?_
 refine W.seq ?_
 obtain ⟨y1, hy2, H⟩ := of_bindO H
 refine W.region env [] [⟨.int .i64 (y1), [], 0, []⟩] rfl rfl rfl .nil (.free (c_gasolierref04_Check p0 hy2) .nil) (At.keep (ts := [1, 2, 4, 6]) (ids := [2, 4]) rfl rfl ?_)
 refine At.thenC ?_
 refine W.rg env [1, 2, 4, 6, 13] [2, 4] ?_
 refine W.cond rfl (fun hb3 => ?_) (fun hb3 => ?_)
 · have H := of_true H hb3
   refine W.rg env [4, 5] [4] ?_
   refine W.ret ?_
   refine At.rthen ?_
   cases H
   exact At.ret env.ty rfl rfl (fun q hq => by cases hq) (Sim.tupL (.cons (Sim.aggL (.cons (Sim.nil _ _) (.cons (Sim.nil _ _) (.cons (Sim.nil _ _) .nil)))) (.cons (.refl _) .nil))) hval
 · have H := of_false H hb3
   refine W.skip ?_
   refine At.thenC ?_
   refine W.seq ?_
   obtain ⟨y4, hy5, H⟩ := of_bindO H
   refine W.region env [] [⟨.agg [roL 4 enc_Task y4.Tasks, roL 1 enc_ListRange y4.Travel, roL 3 enc_Hand y4.Hands], [], 0, []⟩] rfl rfl rfl .nil (.free (c_gasolierref04_Copy p0 hy5) .nil) (At.keep (ts := [1, 2, 4, 7]) (ids := [2, 4, 7]) rfl rfl ?_)
   refine At.thenC ?_
   refine W.rg env [1, 2, 4, 7] [2, 4, 7] ?_
   refine W.seq ?_
   refine W.rg env [1, 2, 4, 7, 20, 21, 22] [2, 4, 7] ?_
   refine W.block ?_
   refine At.nilOwnCell 7 0 950 41 4 (e := fun i => enc_Task (([] : List Task).getD i default)) rfl rfl rfl ?_
   refine At.keep (ts := [1, 2, 4, 7, 20, 21, 22]) (ids := [2, 4, 7, 950]) rfl rfl ?_
   refine W.len (t := 20) rfl (fun (hn6 : p0.Tasks.length ≤ maxLen) => ?_)
   refine W.rangeGo H (fun i6 (s6 : (List Task)) => [(1, .int .i64 (p1)), (2, .lp 2 0), (4, .lp 4 0), (7, .lp 7 0), (20, roL 4 enc_Task p0.Tasks), (21, .int .i64 (((p0.Tasks.length : Nat) : Int))), (22, .int .i64 ((i6 : Int)))]) (fun i6 (s6 : (List Task)) => [(2, .cells [roL 4 enc_Task p0.Tasks, roL 1 enc_ListRange p0.Travel, roL 3 enc_Hand p0.Hands]), (4, .cells [.nilS, .nilS, .nilS]), (7, .cells [.buf 950 (s6).length, roL 1 enc_ListRange y4.Travel, roL 3 enc_Hand y4.Hands]), (950, bufL 41 4 enc_Task s6)]) (.cons .qi (.cons .q (.cons .q (.cons .q (.cons .q (.cons .qi (.cons .qi .nil))))))) (.cons .q (.cons .q (.cons (BSim.cells (.cons .qc (.cons .q (.cons .q .nil)))) (.cons .q .nil)))) (fun k6 i6 s6 hle6 H1 H2 K0 hK6 => ?_)
   refine W.rg env [1, 2, 4, 7, 20, 21, 22, 23] [2, 4, 7, 950] ?_
   refine W.seq ?_
   refine W.cond rfl (fun hb7 => ?_) (fun hb7 => ?_)
   · have hi6 : i6 < p0.Tasks.length := by have := of_decide_eq_true hb7; omega
     have H := H1 hi6
     refine W.skip ?_
     refine At.thenC ?_
     refine W.seq ?_
     refine W.block ?_
     refine W.sr env [] [] [1, 2, 4, 7, 9, 20, 21, 22] [2, 4, 7, 9, 950] rfl rfl rfl (.cons (⟨by omega, by omega⟩ : 0 ≤ (i6 : Int) ∧ (i6 : Int) < ((p0.Tasks.length : Nat) : Int)) .nil) .nil ?_
     refine W.rg env [1, 2, 4, 7, 9, 20, 21, 22, 29] [2, 4, 7, 9, 950] ?_
     refine W.cond rfl (fun hb8 => ?_) (fun hb8 => ?_)
     · have H := of_true H hb8
       obtain ⟨hc9, H⟩ := of_must H
       refine W.region env [] [] rfl rfl rfl (.cons (⟨by first | rfl | (simp; done) | omega | (simp; omega), by have := hc9; first | simpa using this | (unfold room at this ⊢; simp at this ⊢; omega)⟩) .nil) .nil (At.keep (ts := [1, 2, 4, 7, 20, 21, 22]) (ids := [2, 4, 7, 950]) rfl rfl ?_)
       refine At.convM (.cons (.refl _) (.cons (.refl _) (.cons (.refl _) (.cons (y := bufL 41 4 enc_Task (s6 ++ ([(p0.Tasks.getD i6 default)] : List Task))) (BSim.seg (Seg.push (Seg.refl enc_Task _) (Seg.lit (f := enc_Task) (sz := 4) ([(p0.Tasks.getD i6 default)] : List Task) rfl rfl (fun _ => rfl)))) .nil)))) ?_
       refine At.inb ?_
       refine At.thenC ?_
       refine W.region env [] [] rfl rfl rfl (.cons (by unfold inI; have := hn6; (try unfold maxLen at this); omega) .nil) .nil (At.keep (ts := [1, 2, 4, 7, 20, 21, 22]) (ids := [2, 4, 7, 950]) rfl rfl ?_)
       refine At.thenK (At.keep (ts := [1, 2, 4, 7, 20, 21, 22]) (ids := [2, 4, 7, 950]) rfl rfl ?_)
       exact At.conv (.cons .qi (.cons .q (.cons .q (.cons .q (.cons .q (.cons .qi (.cons .qi .nil))))))) (.cons .q (.cons .q (.cons (BSim.cells (.cons .qc (.cons .q (.cons .q .nil)))) (.cons .q .nil)))) (hK6 hi6 (s6 ++ ([(p0.Tasks.getD i6 default)] : List Task)) H)
     · have H := of_false H hb8
       refine W.skip ?_
       refine At.inb ?_
       refine At.thenC ?_
       refine W.region env [] [] rfl rfl rfl (.cons (by unfold inI; have := hn6; (try unfold maxLen at this); omega) .nil) .nil (At.keep (ts := [1, 2, 4, 7, 20, 21, 22]) (ids := [2, 4, 7, 950]) rfl rfl ?_)
       refine At.thenK (At.keep (ts := [1, 2, 4, 7, 20, 21, 22]) (ids := [2, 4, 7, 950]) rfl rfl ?_)
       exact At.conv (.cons .qi (.cons .q (.cons .q (.cons .q (.cons .q (.cons .qi (.cons .qi .nil))))))) (.cons .q (.cons .q (.cons (BSim.cells (.cons .qc (.cons .q (.cons .q .nil)))) (.cons .q .nil)))) (hK6 hi6 s6 H)
   · have H := H2 (by have := of_decide_eq_false hb7; omega)
     refine W.exit ?_
     refine At.xthen ?_
     refine At.xthen ?_
     refine At.xhere ?_
     refine At.thenC ?_
     refine W.seq ?_
     refine W.sr env [] [] [4, 7, 43] [4, 7, 950] rfl rfl rfl (.cons (by first | rfl | (simp; done) | omega | (simp; omega)) .nil) .nil ?_
     refine W.cond rfl (fun hb10 => ?_) (fun hb10 => ?_)
     · have H := of_true H hb10
       refine W.rg env [4, 5] [4] ?_
       refine W.ret ?_
       refine At.rthen ?_
       cases H
       exact At.ret env.ty rfl rfl (fun q hq => by cases hq) (Sim.tupL (.cons (Sim.aggL (.cons (Sim.nil _ _) (.cons (Sim.nil _ _) (.cons (Sim.nil _ _) .nil)))) (.cons (.refl _) .nil))) hval
     · have H := of_false H hb10
       refine W.skip ?_
       refine At.thenC ?_
       refine W.rg env [4, 5] [4, 950] ?_
       refine W.ret ?_
       cases H
       exact At.ret env.ty rfl rfl (fun q hq => by cases hq; exact (by first | rfl | (simp; done) | omega | (simp; omega))) (.refl _) hval
theorem c_slices_IndexFunc_Task (p0 : (List Task)) (p1 : Task → Option Bool) (p1_g : Nat) (p1_a p1_b : List AV) (p1_h : ∀ x0 r, p1 x0 = some r → Ctr Tryz.prog p1_g (p1_a ++ ([.agg [.int .i64 (x0.Lamp), .int .i64 (x0.Place), .int .i64 (x0.At), .int .i64 (x0.Serve)]] ++ p1_b)) (.bool (r))) {r : Int} (H : slices_IndexFunc_Task p0 p1 = some r) : Ctr Tryz.prog 101 [roL 4 enc_Task p0, .clo (.func p1_g) p1_a p1_b] (.int .i64 (r)) := by
 unfold slices_IndexFunc_Task at H
 refine Ctr.of_body (N := 19) Tryz.func101 (by kernel_rfl) (c := _) rfl Tryz.ntmps101 rfl (fun w0 h0 hval => ?_)
 refine W.rg env [0, 1] [] ?_
 refine W.seq ?_
 refine W.rg env [0, 1, 7, 8] [] ?_
 refine W.block ?_
 refine At.keep (ts := [0, 1, 7, 8]) (ids := []) rfl rfl ?_
 refine W.len (t := 0) rfl (fun (hn1 : p0.length ≤ maxLen) => ?_)
 refine W.rangeGo H (fun i1 (s1 : Unit) => [(0, roL 4 enc_Task p0), (1, .clo (.func p1_g) p1_a p1_b), (7, .int .i64 (((p0.length : Nat) : Int))), (8, .int .i64 ((i1 : Int)))]) (fun i1 (s1 : Unit) => []) (.cons .q (.cons .q (.cons .qi (.cons .qi .nil)))) .nil (fun k1 i1 s1 hle1 H1 H2 K0 hK1 => ?_)
 refine W.rg env [0, 1, 7, 8, 9] [] ?_
 refine W.seq ?_
 refine W.cond rfl (fun hb2 => ?_) (fun hb2 => ?_)
 · have hi1 : i1 < p0.length := by have := of_decide_eq_true hb2; omega
   have H := H1 hi1
   refine W.skip ?_
   refine At.thenC ?_
   refine W.seq ?_
   refine W.block ?_
   refine W.rg env [0, 1, 5, 7, 8] [] ?_
   refine W.seq ?_
   obtain ⟨y3, hy4, H⟩ := of_bindO H
   refine W.region env [] [⟨.bool (y3), [], 0, []⟩] rfl rfl rfl (.cons (⟨by omega, by omega⟩ : 0 ≤ (i1 : Int) ∧ (i1 : Int) < ((p0.length : Nat) : Int)) .nil) (.free (p1_h (p0.getD i1 default) _ hy4) .nil) (At.keep (ts := [0, 1, 5, 7, 8, 16]) (ids := []) rfl rfl ?_)
   refine At.thenC ?_
   refine W.cond rfl (fun hb5 => ?_) (fun hb5 => ?_)
   · have H := of_true H hb5
     refine W.rg env [4] [] ?_
     refine W.ret ?_
     refine At.rinb ?_
     refine At.rthen ?_
     refine At.rthen ?_
     refine At.rinb ?_
     refine At.rthen ?_
     cases H
     exact At.ret env.ty rfl rfl (fun q hq => by cases hq) (.refl _) hval
   · have H := of_false H hb5
     refine W.skip ?_
     refine At.inb ?_
     refine At.thenC ?_
     refine W.region env [] [] rfl rfl rfl (.cons (by unfold inI; have := hn1; (try unfold maxLen at this); omega) .nil) .nil (At.keep (ts := [0, 1, 7, 8]) (ids := []) rfl rfl ?_)
     refine At.thenK (At.keep (ts := [0, 1, 7, 8]) (ids := []) rfl rfl ?_)
     exact At.conv (.cons .q (.cons .q (.cons .qi (.cons .qi .nil)))) .nil (hK1 hi1 () H)
 · have H := H2 (by have := of_decide_eq_false hb2; omega)
   refine W.exit ?_
   refine At.xthen ?_
   refine At.xthen ?_
   refine At.xhere ?_
   refine At.thenC ?_
   refine W.rg env [4] [] ?_
   refine W.ret ?_
   cases H
   exact At.ret env.ty rfl rfl (fun q hq => by cases hq) (.refl _) hval
theorem co_slices_DeleteFunc_Task (fuel : Nat) (p0 : (List Task)) (p1 : Task → Option Bool) (p1_g : Nat) (p1_a p1_b : List AV) (p1_h : ∀ x0 r, p1 x0 = some r → Ctr Tryz.prog p1_g (p1_a ++ ([.agg [.int .i64 (x0.Lamp), .int .i64 (x0.Place), .int .i64 (x0.At), .int .i64 (x0.Serve)]] ++ p1_b)) (.bool (r))) {r : (List Task)} (H : slices_DeleteFunc_Task fuel p0 p1 = some r) : CtrO Tryz.prog 74 [.buf 700 (p0).length, .clo (.func p1_g) p1_a p1_b] [(700, bufL 41 4 enc_Task p0)] (.buf 900 r.length) [(900, bufL 41 4 enc_Task r)] := by
 unfold slices_DeleteFunc_Task at H
 refine CtrO.of_body (N := 42) Tryz.func74 (by kernel_rfl) (c := _) rfl Tryz.ntmps74 rfl (fun w0 h0 ρb hval hdom => ?_)
 refine W.rg env [0, 1] [700] ?_
 refine W.seq ?_
 obtain ⟨y1, hy2, H⟩ := of_bindO H
 refine W.region env [] [⟨.int .i64 (y1), [], 0, []⟩] rfl rfl rfl (.cons (by first | rfl | (simp; done) | omega | (simp; omega)) .nil) (.free (c_slices_IndexFunc_Task p0 p1 p1_g p1_a p1_b p1_h hy2) .nil) (At.keep (ts := [0, 1, 5]) (ids := [700]) rfl rfl ?_)
 refine At.thenC ?_
 refine W.seq ?_
 refine W.rg env [0, 1, 5, 12] [700] ?_
 refine W.cond rfl (fun hb3 => ?_) (fun hb3 => ?_)
 · have H := of_true H hb3
   refine W.rg env [4] [700] ?_
   refine W.ret ?_
   refine At.rthen ?_
   cases H
   exact At.retK env.ty [700] 200 rfl rfl rfl rfl (.cons (.refl _) .nil) (.of_eq (by refine bufEq ?_; first | (simp [copyAt]; done) | omega | (simp [copyAt]; omega) | rfl)) hval hdom rfl
 · have H := of_false H hb3
   refine W.skip ?_
   refine At.thenC ?_
   refine W.seq ?_
   obtain ⟨hc4, H⟩ := of_must H
   refine W.sr env [] [] [0, 1, 5, 6] [700] rfl rfl rfl (.cons hc4 .nil) .nil ?_
   refine W.block ?_
   refine At.keep (ts := [0, 1, 5, 6]) (ids := [700]) rfl rfl ?_
   refine W.loopGo H (fun (s5 : Int × Int × (List Task)) => [(0, .buf 700 (s5.2.2).length), (1, .clo (.func p1_g) p1_a p1_b), (5, .int .i64 (s5.1)), (6, .int .i64 (s5.2.1))]) (fun (s5 : Int × Int × (List Task)) => [(700, bufL 41 4 enc_Task s5.2.2)]) (.cons .qb (.cons .q (.cons .qi (.cons .qi .nil)))) (.cons .q .nil) (fun k5 s5 H K0 hK5 => ?_)
   refine W.seq ?_
   refine W.sr env [] [] [0, 1, 5, 6, 19] [700] rfl rfl rfl (.cons (by first | rfl | (simp; done) | omega | (simp; omega)) .nil) .nil ?_
   refine W.cond rfl (fun hb6 => ?_) (fun hb6 => ?_)
   · have H := of_true H hb6
     refine W.skip ?_
     refine At.thenC ?_
     refine W.seq ?_
     refine W.block ?_
     obtain ⟨hc7, H⟩ := of_must H
     refine W.sr env [] [] [0, 1, 5, 6, 7] [7, 700] rfl rfl rfl (.cons (⟨by first | rfl | (simp; done) | omega | (simp; omega), hc7⟩) (.cons (⟨by first | rfl | (simp; done) | omega | (simp; omega), (by have := hc7; first | omega | (simp only [List.length_set]; omega) | (simp only [Int.toNat_natCast] at *; omega) | (simp at this ⊢; omega))⟩) .nil)) .nil ?_
     refine W.seq ?_
     obtain ⟨y8, hy9, H⟩ := of_bindO H
     refine W.region env [] [⟨.bool (y8), [], 0, []⟩] rfl rfl rfl .nil (.free (p1_h (s5.2.2.getD (s5.2.1).toNat default) _ hy9) .nil) (At.keep (ts := [0, 1, 5, 6, 7, 29]) (ids := [7, 700]) rfl rfl ?_)
     refine At.thenC ?_
     refine W.cond rfl (fun hb10 => ?_) (fun hb10 => ?_)
     · have H := of_true H hb10
       refine W.seq ?_
       obtain ⟨hc11, H⟩ := of_must H
       refine W.region env [] [] rfl rfl rfl (.cons (⟨by first | rfl | (simp; done) | omega | (simp; omega), hc11⟩) (.cons (⟨by first | rfl | (simp; done) | omega | (simp; omega), (by have := hc11; first | omega | (simp only [List.length_set]; omega) | (simp only [Int.toNat_natCast] at *; omega) | (simp at this ⊢; omega))⟩) .nil)) .nil (At.keep (ts := [0, 1, 5, 6]) (ids := [700]) rfl rfl ?_)
       refine At.convM (.cons (y := bufL 41 4 enc_Task (s5.2.2.set (s5.1).toNat (s5.2.2.getD (s5.2.1).toNat default))) (BSim.seg (Seg.set (Seg.refl enc_Task _) (s5.2.2.getD (s5.2.1).toNat default) rfl)) .nil) ?_
       refine At.thenC ?_
       obtain ⟨hc12, H⟩ := of_must H
       refine W.region env [] [] rfl rfl rfl (.cons hc12 .nil) .nil (At.keep (ts := [0, 1, 5, 6]) (ids := [700]) rfl rfl ?_)
       refine At.inb ?_
       refine At.thenC ?_
       obtain ⟨hc13, H⟩ := of_must H
       refine W.region env [] [] rfl rfl rfl (.cons hc13 .nil) .nil (At.keep (ts := [0, 1, 5, 6]) (ids := [700]) rfl rfl ?_)
       refine At.thenK (At.keep (ts := [0, 1, 5, 6]) (ids := [700]) rfl rfl ?_)
       exact At.conv (.cons .qb (.cons .q (.cons .qi (.cons .qi .nil)))) (.cons .q .nil) (hK5 ((s5.1 + 1), (s5.2.1 + 1), (s5.2.2.set (s5.1).toNat (s5.2.2.getD (s5.2.1).toNat default))) H)
     · have H := of_false H hb10
       refine W.skip ?_
       refine At.inb ?_
       refine At.thenC ?_
       obtain ⟨hc14, H⟩ := of_must H
       refine W.region env [] [] rfl rfl rfl (.cons hc14 .nil) .nil (At.keep (ts := [0, 1, 5, 6]) (ids := [700]) rfl rfl ?_)
       refine At.thenK (At.keep (ts := [0, 1, 5, 6]) (ids := [700]) rfl rfl ?_)
       exact At.conv (.cons .qb (.cons .q (.cons .qi (.cons .qi .nil)))) (.cons .q .nil) (hK5 (s5.1, (s5.2.1 + 1), s5.2.2) H)
   · have H := of_false H hb6
     refine W.exit ?_
     refine At.xthen ?_
     refine At.xthen ?_
     refine At.xhere ?_
     refine At.thenC ?_
     refine W.seq ?_
     obtain ⟨hc15, H⟩ := of_must H
     refine W.region env [] [] rfl rfl rfl (.cons (⟨by first | rfl | (simp; done) | omega | (simp; omega), hc15⟩) (.cons (⟨by first | rfl | (simp; done) | omega | (simp; omega), (by have := hc15; omega), (by have := hc15; omega)⟩) .nil)) .nil (At.keep (ts := [0, 5]) (ids := [700]) rfl rfl ?_)
     refine At.convM (.cons (y := bufL 41 4 enc_Task (copyAt s5.2.2 ((s5.1).toNat) (s5.2.2.length - (s5.1).toNat) (fun _ => (⟨0, 0, 0, 0⟩ : Task)))) (BSim.seg (Seg.cleared (a := (s5.1).toNat) (b := s5.2.2.length) (Seg.refl enc_Task _) (⟨0, 0, 0, 0⟩ : Task) rfl (by have := hc15; omega))) .nil) ?_
     refine At.thenC ?_
     obtain ⟨hc16, H⟩ := of_must H
     refine W.sr env [] [] [4] [700] rfl rfl rfl (.cons (⟨by first | rfl | (simp [length_copyAt]; done) | (simp [length_copyAt]; omega), hc16⟩) .nil) .nil ?_
     refine W.ret ?_
     cases H
     refine At.shrink 4 700 850 (K := []) (ts := []) rfl rfl (by first | rfl | (simp; done) | omega | (simp; omega)) (by have := hc16; omega) rfl rfl rfl rfl ?_
     refine At.convM (.cons (y := bufL 41 4 enc_Task ((copyAt s5.2.2 ((s5.1).toNat) (s5.2.2.length - (s5.1).toNat) (fun _ => (⟨0, 0, 0, 0⟩ : Task))).take ((s5.1).toNat))) (BSim.seg (Seg.first (Seg.refl enc_Task _) (by have := hc16; omega))) .nil) ?_
     exact At.retK env.ty [850] 50 rfl rfl rfl rfl (.cons (.refl _) .nil) (.of_eq (by refine bufEq ?_; first | (simp [copyAt]; done) | omega | (simp [copyAt]; omega) | rfl)) hval hdom rfl
theorem c_crew_After_1 (p0 : Task) (c0 : Int) : Ctr Tryz.prog 75 [.agg [.int .i64 (p0.Lamp), .int .i64 (p0.Place), .int .i64 (p0.At), .int .i64 (p0.Serve)], .rp [.int .i64 (c0)]] (.bool ((crew_After_1 p0 c0))) := by
 obtain ⟨r, H⟩ : ∃ r, crew_After_1 p0 c0 = r := ⟨_, rfl⟩
 rw [H]
 unfold crew_After_1 at H
 refine Ctr.of_body (N := 8) Tryz.func75 (by kernel_rfl) (c := _) rfl Tryz.ntmps75 rfl (fun w0 h0 hval => ?_)
 refine W.rg env [1, 2] [2] ?_
 refine W.rg env [3] [] ?_
 refine W.ret ?_
 cases H
 exact At.ret env.ty rfl rfl (fun q hq => by cases hq) (.refl _) hval
theorem c_crew_After (fuel : Nat) (p0 : Crew) (p1 : Int) {r : (Crew × Int)} (H : crew_After fuel p0 p1 = some r) : Ctr Tryz.prog 23 [.agg [roL 4 enc_Task p0.Tasks, roL 1 enc_ListRange p0.Travel, roL 3 enc_Hand p0.Hands], .int .i64 (p1)] (.tup [.agg [roL 4 enc_Task r.1.Tasks, roL 1 enc_ListRange r.1.Travel, roL 3 enc_Hand r.1.Hands], .int .i64 (r.2)]) := by
 unfold crew_After at H
 refine Ctr.of_body (N := 26) Tryz.func23 (by kernel_rfl) (c := _) rfl Tryz.ntmps23 rfl (fun w0 h0 hval => ?_)
 refine W.rg env [2, 3, 4] [2, 3, 4] ?_
 refine W.seq ?_
 refine W.seq ?_
 obtain ⟨y1, hy2, H⟩ := of_bindO H
 refine W.region env [] [⟨.int .i64 (y1), [], 0, []⟩] rfl rfl rfl .nil (.free (c_crew_Check p0 hy2) .nil) (At.keep (ts := [2, 3, 4, 6]) (ids := [2, 3, 4]) rfl rfl ?_)
 refine At.thenC ?_
 refine W.rg env [2, 3, 4, 6, 11] [2, 3, 4] ?_
 refine W.cond rfl (fun hb3 => ?_) (fun hb3 => ?_)
 · have H := of_true H hb3
   refine W.rg env [4, 5] [4] ?_
   refine W.ret ?_
   refine At.rthen ?_
   cases H
   exact At.ret env.ty rfl rfl (fun q hq => by cases hq) (Sim.tupL (.cons (Sim.aggL (.cons (Sim.nil _ _) (.cons (Sim.nil _ _) (.cons (Sim.nil _ _) .nil)))) (.cons (.refl _) .nil))) hval
 · have H := of_false H hb3
   refine W.skip ?_
   refine At.thenC ?_
   refine W.seq ?_
   refine W.sr env [] [⟨.bool ((crew_isMinute p1)), [], 0, []⟩] [2, 3, 4, 16] [2, 3, 4] rfl rfl rfl .nil (.free (c_crew_isMinute p1) .nil) ?_
   refine W.cond rfl (fun hb4 => ?_) (fun hb4 => ?_)
   · have H := of_true H hb4
     refine W.rg env [4, 5] [4] ?_
     refine W.ret ?_
     refine At.rthen ?_
     cases H
     exact At.ret env.ty rfl rfl (fun q hq => by cases hq) (Sim.tupL (.cons (Sim.aggL (.cons (Sim.nil _ _) (.cons (Sim.nil _ _) (.cons (Sim.nil _ _) .nil)))) (.cons (.refl _) .nil))) hval
   · have H := of_false H hb4
     refine W.skip ?_
     refine At.thenC ?_
     refine W.seq ?_
     obtain ⟨y5, hy6, H⟩ := of_bindO H
     refine W.region env [] [⟨.agg [.buf 940 (y5.Tasks).length, .buf 941 (y5.Travel).length, roL 3 enc_Hand y5.Hands], [(940, bufL 41 4 enc_Task y5.Tasks), (941, bufL 106 1 enc_ListRange y5.Travel)], 20000, []⟩] rfl rfl (by kernel_rfl) .nil (.free ((Ctr.ofO (co_crew_copied_o0_1 p0 hy6))) .nil) (At.keep (ts := [3, 4, 7]) (ids := [3, 4, 7, 20940, 20941]) rfl rfl ?_)
     refine At.thenC ?_
     refine W.seq ?_
     refine At.freezeC 3 (K := [4, 7, 20940, 20941]) (ts := [3, 4, 7]) rfl rfl rfl rfl rfl (fun _ h => h) ?_
     obtain ⟨y7, hy8, H⟩ := of_bindO H
     refine W.region env [] [⟨.buf 900 y7.length, [(20940, .dead), (900, bufL 41 4 enc_Task y7)], 24000, []⟩] rfl rfl (by kernel_rfl) .nil (.free (CtrO.sim (CtrO.at (co_slices_DeleteFunc_Task fuel y5.Tasks (fun x0 => some (crew_After_1 x0 p1)) 75 [] ([.rp [.int .i64 (p1)]]) (fun x0 r h => by cases h; exact c_crew_After_1 x0 p1) hy8) rfl 20940) (.cons .qc (.cons (Sim.fnClo rfl) .nil)) (.cons (.refl _) .nil)) .nil) (At.keep (ts := [4, 7]) (ids := [4, 7, 20941, 24900]) rfl rfl ?_)
     refine At.thenC ?_
     refine W.rg env [4, 5] [4, 20941, 24900] ?_
     refine W.ret ?_
     cases H
     exact At.ret env.ty rfl rfl (fun q hq => by cases hq; exact ⟨by first | rfl | (simp; done) | omega | (simp; omega), (by first | rfl | (simp; done) | omega | (simp; omega))⟩) (.refl _) hval
theorem c_gasolierref04_After (p0 : Crew) (p1 : Int) {r : (Crew × Int)} (H : gasolierref04_After p0 p1 = some r) : Ctr Tryz.prog 24 [.agg [roL 4 enc_Task p0.Tasks, roL 1 enc_ListRange p0.Travel, roL 3 enc_Hand p0.Hands], .int .i64 (p1)] (.tup [.agg [roL 4 enc_Task r.1.Tasks, roL 1 enc_ListRange r.1.Travel, roL 3 enc_Hand r.1.Hands], .int .i64 (r.2)]) := by
 unfold gasolierref04_After at H
 refine Ctr.of_body (N := 42) Tryz.func24 (by kernel_rfl) (c := _) rfl Tryz.ntmps24 rfl (fun w0 h0 hval => ?_)
 refine W.rg env [1, 2, 4] [2, 4] ?_
 refine W.seq ?_
 refine W.seq ?_
 obtain ⟨y1, hy2, H⟩ := of_bindO H
 refine W.region env [] [⟨.int .i64 (y1), [], 0, []⟩] rfl rfl rfl .nil (.free (c_gasolierref04_Check p0 hy2) .nil) (At.keep (ts := [1, 2, 4, 6]) (ids := [2, 4]) rfl rfl ?_)
 refine At.thenC ?_
 refine W.rg env [1, 2, 4, 6, 13] [2, 4] ?_
 refine W.cond rfl (fun hb3 => ?_) (fun hb3 => ?_)
 · have H := of_true H hb3
   refine W.rg env [4, 5] [4] ?_
   refine W.ret ?_
   refine At.rthen ?_
   cases H
   exact At.ret env.ty rfl rfl (fun q hq => by cases hq) (Sim.tupL (.cons (Sim.aggL (.cons (Sim.nil _ _) (.cons (Sim.nil _ _) (.cons (Sim.nil _ _) .nil)))) (.cons (.refl _) .nil))) hval
 · have H := of_false H hb3
   refine W.skip ?_
   refine At.thenC ?_
   refine W.seq ?_
   refine W.sr env [] [⟨.bool ((gasolierref01_Within p1 0 1439)), [], 0, []⟩] [1, 2, 4, 18] [2, 4] rfl rfl rfl .nil (.free (c_gasolierref01_Within p1 0 1439) .nil) ?_
   refine W.cond rfl (fun hb4 => ?_) (fun hb4 => ?_)
   · have H := of_true H hb4
     refine W.rg env [4, 5] [4] ?_
     refine W.ret ?_
     refine At.rthen ?_
     cases H
     exact At.ret env.ty rfl rfl (fun q hq => by cases hq) (Sim.tupL (.cons (Sim.aggL (.cons (Sim.nil _ _) (.cons (Sim.nil _ _) (.cons (Sim.nil _ _) .nil)))) (.cons (.refl _) .nil))) hval
   · have H := of_false H hb4
     refine W.skip ?_
     refine At.thenC ?_
     refine W.seq ?_
     obtain ⟨y5, hy6, H⟩ := of_bindO H
     refine W.region env [] [⟨.agg [roL 4 enc_Task y5.Tasks, roL 1 enc_ListRange y5.Travel, roL 3 enc_Hand y5.Hands], [], 0, []⟩] rfl rfl rfl .nil (.free (c_gasolierref04_Copy p0 hy6) .nil) (At.keep (ts := [1, 2, 4, 7]) (ids := [2, 4, 7]) rfl rfl ?_)
     refine At.thenC ?_
     refine W.rg env [1, 2, 4, 7] [2, 4, 7] ?_
     refine W.seq ?_
     refine W.rg env [1, 4, 7, 24, 25, 26] [4, 7] ?_
     refine W.block ?_
     refine At.nilOwnCell 7 0 950 41 4 (e := fun i => enc_Task (([] : List Task).getD i default)) rfl rfl rfl ?_
     refine At.keep (ts := [1, 4, 7, 24, 25, 26]) (ids := [4, 7, 950]) rfl rfl ?_
     refine W.len (t := 24) rfl (fun (hn7 : p0.Tasks.length ≤ maxLen) => ?_)
     refine W.rangeGo H (fun i7 (s7 : (List Task)) => [(1, .int .i64 (p1)), (4, .lp 4 0), (7, .lp 7 0), (24, roL 4 enc_Task p0.Tasks), (25, .int .i64 (((p0.Tasks.length : Nat) : Int))), (26, .int .i64 ((i7 : Int)))]) (fun i7 (s7 : (List Task)) => [(4, .cells [.nilS, .nilS, .nilS]), (7, .cells [.buf 950 (s7).length, roL 1 enc_ListRange y5.Travel, roL 3 enc_Hand y5.Hands]), (950, bufL 41 4 enc_Task s7)]) (.cons .qi (.cons .q (.cons .q (.cons .q (.cons .qi (.cons .qi .nil)))))) (.cons .q (.cons (BSim.cells (.cons .qc (.cons .q (.cons .q .nil)))) (.cons .q .nil))) (fun k7 i7 s7 hle7 H1 H2 K0 hK7 => ?_)
     refine W.rg env [1, 4, 7, 24, 25, 26, 27] [4, 7, 950] ?_
     refine W.seq ?_
     refine W.cond rfl (fun hb8 => ?_) (fun hb8 => ?_)
     · have hi7 : i7 < p0.Tasks.length := by have := of_decide_eq_true hb8; omega
       have H := H1 hi7
       refine W.skip ?_
       refine At.thenC ?_
       refine W.seq ?_
       refine W.block ?_
       refine W.sr env [] [] [1, 4, 7, 9, 24, 25, 26] [4, 7, 9, 950] rfl rfl rfl (.cons (⟨by omega, by omega⟩ : 0 ≤ (i7 : Int) ∧ (i7 : Int) < ((p0.Tasks.length : Nat) : Int)) .nil) .nil ?_
       refine W.rg env [1, 4, 7, 9, 24, 25, 26, 33] [4, 7, 9, 950] ?_
       refine W.cond rfl (fun hb9 => ?_) (fun hb9 => ?_)
       · have H := of_true H hb9
         obtain ⟨hc10, H⟩ := of_must H
         refine W.region env [] [] rfl rfl rfl (.cons (⟨by first | rfl | (simp; done) | omega | (simp; omega), by have := hc10; first | simpa using this | (unfold room at this ⊢; simp at this ⊢; omega)⟩) .nil) .nil (At.keep (ts := [1, 4, 7, 24, 25, 26]) (ids := [4, 7, 950]) rfl rfl ?_)
         refine At.convM (.cons (.refl _) (.cons (.refl _) (.cons (y := bufL 41 4 enc_Task (s7 ++ ([(p0.Tasks.getD i7 default)] : List Task))) (BSim.seg (Seg.push (Seg.refl enc_Task _) (Seg.lit (f := enc_Task) (sz := 4) ([(p0.Tasks.getD i7 default)] : List Task) rfl rfl (fun _ => rfl)))) .nil))) ?_
         refine At.inb ?_
         refine At.thenC ?_
         refine W.region env [] [] rfl rfl rfl (.cons (by unfold inI; have := hn7; (try unfold maxLen at this); omega) .nil) .nil (At.keep (ts := [1, 4, 7, 24, 25, 26]) (ids := [4, 7, 950]) rfl rfl ?_)
         refine At.thenK (At.keep (ts := [1, 4, 7, 24, 25, 26]) (ids := [4, 7, 950]) rfl rfl ?_)
         exact At.conv (.cons .qi (.cons .q (.cons .q (.cons .q (.cons .qi (.cons .qi .nil)))))) (.cons .q (.cons (BSim.cells (.cons .qc (.cons .q (.cons .q .nil)))) (.cons .q .nil))) (hK7 hi7 (s7 ++ ([(p0.Tasks.getD i7 default)] : List Task)) H)
       · have H := of_false H hb9
         refine W.skip ?_
         refine At.inb ?_
         refine At.thenC ?_
         refine W.region env [] [] rfl rfl rfl (.cons (by unfold inI; have := hn7; (try unfold maxLen at this); omega) .nil) .nil (At.keep (ts := [1, 4, 7, 24, 25, 26]) (ids := [4, 7, 950]) rfl rfl ?_)
         refine At.thenK (At.keep (ts := [1, 4, 7, 24, 25, 26]) (ids := [4, 7, 950]) rfl rfl ?_)
         exact At.conv (.cons .qi (.cons .q (.cons .q (.cons .q (.cons .qi (.cons .qi .nil)))))) (.cons .q (.cons (BSim.cells (.cons .qc (.cons .q (.cons .q .nil)))) (.cons .q .nil))) (hK7 hi7 s7 H)
     · have H := H2 (by have := of_decide_eq_false hb8; omega)
       refine W.exit ?_
       refine At.xthen ?_
       refine At.xthen ?_
       refine At.xhere ?_
       refine At.thenC ?_
       refine W.rg env [4, 5] [4, 950] ?_
       refine W.ret ?_
       cases H
       exact At.ret env.ty rfl rfl (fun q hq => by cases hq; exact (by first | rfl | (simp; done) | omega | (simp; omega))) (.refl _) hval
theorem c_slices_IndexFunc_Hand (p0 : (List Hand)) (p1 : Hand → Option Bool) (p1_g : Nat) (p1_a p1_b : List AV) (p1_h : ∀ x0 r, p1 x0 = some r → Ctr Tryz.prog p1_g (p1_a ++ ([.agg [.int .i64 (x0.Id), .int .i64 (x0.From), .int .i64 (x0.To)]] ++ p1_b)) (.bool (r))) {r : Int} (H : slices_IndexFunc_Hand p0 p1 = some r) : Ctr Tryz.prog 56 [roL 3 enc_Hand p0, .clo (.func p1_g) p1_a p1_b] (.int .i64 (r)) := by
 unfold slices_IndexFunc_Hand at H
 refine Ctr.of_body (N := 19) Tryz.func56 (by kernel_rfl) (c := _) rfl Tryz.ntmps56 rfl (fun w0 h0 hval => ?_)
 refine W.rg env [0, 1] [] ?_
 refine W.seq ?_
 refine W.rg env [0, 1, 7, 8] [] ?_
 refine W.block ?_
 refine At.keep (ts := [0, 1, 7, 8]) (ids := []) rfl rfl ?_
 refine W.len (t := 0) rfl (fun (hn1 : p0.length ≤ maxLen) => ?_)
 refine W.rangeGo H (fun i1 (s1 : Unit) => [(0, roL 3 enc_Hand p0), (1, .clo (.func p1_g) p1_a p1_b), (7, .int .i64 (((p0.length : Nat) : Int))), (8, .int .i64 ((i1 : Int)))]) (fun i1 (s1 : Unit) => []) (.cons .q (.cons .q (.cons .qi (.cons .qi .nil)))) .nil (fun k1 i1 s1 hle1 H1 H2 K0 hK1 => ?_)
 refine W.rg env [0, 1, 7, 8, 9] [] ?_
 refine W.seq ?_
 refine W.cond rfl (fun hb2 => ?_) (fun hb2 => ?_)
 · have hi1 : i1 < p0.length := by have := of_decide_eq_true hb2; omega
   have H := H1 hi1
   refine W.skip ?_
   refine At.thenC ?_
   refine W.seq ?_
   refine W.block ?_
   refine W.rg env [0, 1, 5, 7, 8] [] ?_
   refine W.seq ?_
   obtain ⟨y3, hy4, H⟩ := of_bindO H
   refine W.region env [] [⟨.bool (y3), [], 0, []⟩] rfl rfl rfl (.cons (⟨by omega, by omega⟩ : 0 ≤ (i1 : Int) ∧ (i1 : Int) < ((p0.length : Nat) : Int)) .nil) (.free (p1_h (p0.getD i1 default) _ hy4) .nil) (At.keep (ts := [0, 1, 5, 7, 8, 16]) (ids := []) rfl rfl ?_)
   refine At.thenC ?_
   refine W.cond rfl (fun hb5 => ?_) (fun hb5 => ?_)
   · have H := of_true H hb5
     refine W.rg env [4] [] ?_
     refine W.ret ?_
     refine At.rinb ?_
     refine At.rthen ?_
     refine At.rthen ?_
     refine At.rinb ?_
     refine At.rthen ?_
     cases H
     exact At.ret env.ty rfl rfl (fun q hq => by cases hq) (.refl _) hval
   · have H := of_false H hb5
     refine W.skip ?_
     refine At.inb ?_
     refine At.thenC ?_
     refine W.region env [] [] rfl rfl rfl (.cons (by unfold inI; have := hn1; (try unfold maxLen at this); omega) .nil) .nil (At.keep (ts := [0, 1, 7, 8]) (ids := []) rfl rfl ?_)
     refine At.thenK (At.keep (ts := [0, 1, 7, 8]) (ids := []) rfl rfl ?_)
     exact At.conv (.cons .q (.cons .q (.cons .qi (.cons .qi .nil)))) .nil (hK1 hi1 () H)
 · have H := H2 (by have := of_decide_eq_false hb2; omega)
   refine W.exit ?_
   refine At.xthen ?_
   refine At.xthen ?_
   refine At.xhere ?_
   refine At.thenC ?_
   refine W.rg env [4] [] ?_
   refine W.ret ?_
   cases H
   exact At.ret env.ty rfl rfl (fun q hq => by cases hq) (.refl _) hval
theorem c_crew_Ill_1 (p0 : Hand) (c0 : Int) : Ctr Tryz.prog 76 [.agg [.int .i64 (p0.Id), .int .i64 (p0.From), .int .i64 (p0.To)], .rp [.int .i64 (c0)]] (.bool ((crew_Ill_1 p0 c0))) := by
 obtain ⟨r, H⟩ : ∃ r, crew_Ill_1 p0 c0 = r := ⟨_, rfl⟩
 rw [H]
 unfold crew_Ill_1 at H
 refine Ctr.of_body (N := 8) Tryz.func76 (by kernel_rfl) (c := _) rfl Tryz.ntmps76 rfl (fun w0 h0 hval => ?_)
 refine W.rg env [1, 2] [2] ?_
 refine W.rg env [3] [] ?_
 refine W.ret ?_
 cases H
 exact At.ret env.ty rfl rfl (fun q hq => by cases hq) (.refl _) hval
theorem co_slices_Clone_Hand (p0 : (List Hand)) {r : (List Hand)} (H : slices_Clone_Hand p0 = some r) : CtrO Tryz.prog 89 [roL 3 enc_Hand p0] [] (.buf 900 r.length) [(900, bufL 43 3 enc_Hand r)] := by
 unfold slices_Clone_Hand at H
 refine CtrO.of_body (N := 8) Tryz.func89 (by kernel_rfl) (c := _) rfl Tryz.ntmps89 rfl (fun w0 h0 ρb hval hdom => ?_)
 refine W.rg env [0] [] ?_
 refine W.seq ?_
 refine W.rg env [0, 4] [] ?_
 refine W.condNz rfl (fun hz => ?_) ?_
 · obtain rfl : p0 = [] := List.length_eq_zero_iff.1 hz
   obtain ⟨hc1, H⟩ := of_must H
   refine W.rg env [2] [] ?_
   refine W.ret ?_
   refine At.rthen ?_
   cases H
   refine At.nilOwn 2 800 43 3 (e := fun i => enc_Hand (([] : List Hand).getD i default)) rfl rfl ?_
   exact At.retK env.ty [800] 100 rfl rfl rfl rfl (.cons (.refl _) .nil) (.of_eq (by refine bufEq ?_; first | (simp [copyAt]; done) | omega | (simp [copyAt]; omega) | rfl)) hval hdom rfl
 · refine W.skip ?_
   refine At.thenC ?_
   refine W.seq ?_
   obtain ⟨hc1, H⟩ := of_must H
   refine W.region env [5] [] rfl rfl rfl (.cons (⟨by first | rfl | (simp; done) | omega | (simp; omega), by have := hc1; first | simpa using this | (unfold room at this ⊢; simp at this ⊢; omega)⟩) .nil) .nil (At.keep (ts := [2]) (ids := [5]) rfl rfl ?_)
   refine At.convM (.cons (y := bufL 43 3 enc_Hand (([] : List Hand) ++ p0)) (BSim.seg (Seg.push (Seg.lit (f := enc_Hand) (sz := 3) ([] : List Hand) rfl rfl (fun _ => rfl)) (Seg.refl enc_Hand p0))) .nil) ?_
   refine At.thenC ?_
   refine W.ret ?_
   cases H
   exact At.retK env.ty [5] 895 rfl rfl rfl rfl (.cons (.refl _) .nil) (.of_eq (by refine bufEq ?_; first | (simp [copyAt]; done) | omega | (simp [copyAt]; omega) | rfl)) hval hdom rfl
theorem co_crew_copied_o0_1_2 (p0 : Crew) {r : Crew} (H : crew_copied p0 = some r) : CtrO Tryz.prog 53 [.agg [roL 4 enc_Task p0.Tasks, roL 1 enc_ListRange p0.Travel, roL 3 enc_Hand p0.Hands]] [] (.agg [.buf 940 (r.Tasks).length, .buf 941 (r.Travel).length, .buf 942 (r.Hands).length]) [(940, bufL 41 4 enc_Task r.Tasks), (941, bufL 106 1 enc_ListRange r.Travel), (942, bufL 43 3 enc_Hand r.Hands)] := by
 unfold crew_copied at H
 refine CtrO.of_body (N := 29) Tryz.func53 (by kernel_rfl) (c := _) rfl Tryz.ntmps53 rfl (fun w0 h0 ρb hval hdom => ?_)
 refine W.rg env [1, 2] [1, 2] ?_
 refine W.seq ?_
 obtain ⟨y1, hy2, H⟩ := of_bindO H
 obtain ⟨y3, hy4, H⟩ := of_bindO H
 refine W.region env [] [⟨.buf 900 y1.length, [(900, bufL 41 4 enc_Task y1)], 9000, []⟩, ⟨.buf 900 y3.length, [(900, bufL 43 3 enc_Hand y3)], 12000, []⟩] rfl rfl (by kernel_rfl) .nil (.free ((Ctr.ofO (co_slices_Clone_Task p0.Tasks hy2))) (.free ((Ctr.ofO (co_slices_Clone_Hand p0.Hands hy4))) .nil)) (At.keep (ts := [1, 2, 3]) (ids := [1, 2, 3, 9900, 12900]) rfl rfl ?_)
 refine At.thenC ?_
 refine W.seq ?_
 refine W.rg env [2, 3, 14, 15, 16] [2, 3, 9900, 12900] ?_
 refine W.block ?_
 refine At.nilOwnCell 3 1 751 106 1 (e := fun i => enc_ListRange (([] : List (List Range)).getD i default)) rfl rfl rfl ?_
 refine At.keep (ts := [2, 3, 14, 15, 16]) (ids := [2, 3, 751, 9900, 12900]) rfl rfl ?_
 refine W.len (t := 14) rfl (fun (hn5 : p0.Travel.length ≤ maxLen) => ?_)
 refine W.rangeGo H (fun i5 (s5 : (List (List Range))) => [(2, .lp 2 0), (3, .lp 3 0), (14, roL 1 enc_ListRange p0.Travel), (15, .int .i64 (((p0.Travel.length : Nat) : Int))), (16, .int .i64 ((i5 : Int)))]) (fun i5 (s5 : (List (List Range))) => [(2, .cells [.nilS, .nilS, .nilS]), (3, .cells [.buf 9900 (y1).length, .buf 751 (s5).length, .buf 12900 (y3).length]), (751, bufL 106 1 enc_ListRange s5), (9900, bufL 41 4 enc_Task y1), (12900, bufL 43 3 enc_Hand y3)]) (.cons .q (.cons .q (.cons .q (.cons .qi (.cons .qi .nil))))) (.cons .q (.cons (BSim.cells (.cons .qc (.cons .qc (.cons .qc .nil)))) (.cons .q (.cons .q (.cons .q .nil))))) (fun k5 i5 s5 hle5 H1 H2 K0 hK5 => ?_)
 refine W.rg env [2, 3, 14, 15, 16, 17] [2, 3, 751, 9900, 12900] ?_
 refine W.seq ?_
 refine W.cond rfl (fun hb6 => ?_) (fun hb6 => ?_)
 · have hi5 : i5 < p0.Travel.length := by have := of_decide_eq_true hb6; omega
   have H := H1 hi5
   refine W.skip ?_
   refine At.thenC ?_
   refine W.seq ?_
   refine W.block ?_
   refine W.sr env [] [] [2, 3, 5, 14, 15, 16] [2, 3, 751, 9900, 12900] rfl rfl rfl (.cons (⟨by omega, by omega⟩ : 0 ≤ (i5 : Int) ∧ (i5 : Int) < ((p0.Travel.length : Nat) : Int)) .nil) .nil ?_
   obtain ⟨y7, hy8, H⟩ := of_bindO H
   obtain ⟨hc9, H⟩ := of_must H
   refine W.region env [] [⟨roL 2 enc_Range y7, [], 0, []⟩] rfl rfl (by kernel_rfl) (.cons (⟨by first | rfl | (simp; done) | omega | (simp; omega), by have := hc9; first | simpa using this | (unfold room at this ⊢; simp at this ⊢; omega)⟩) .nil) (.free (c_slices_Clone_Range (p0.Travel.getD i5 default) hy8) .nil) (At.keep (ts := [2, 3, 14, 15, 16]) (ids := [2, 3, 751, 9900, 12900]) rfl rfl ?_)
   refine At.convM (.cons (.refl _) (.cons (.refl _) (.cons (y := bufL 106 1 enc_ListRange (s5 ++ ([y7] : List (List Range)))) (BSim.seg (Seg.push (Seg.refl enc_ListRange _) (Seg.lit (f := enc_ListRange) (sz := 1) ([y7] : List (List Range)) rfl rfl (fun _ => rfl)))) (.cons (.refl _) (.cons (.refl _) .nil))))) ?_
   refine At.inb ?_
   refine At.thenC ?_
   refine W.region env [] [] rfl rfl rfl (.cons (by unfold inI; have := hn5; (try unfold maxLen at this); omega) .nil) .nil (At.keep (ts := [2, 3, 14, 15, 16]) (ids := [2, 3, 751, 9900, 12900]) rfl rfl ?_)
   refine At.thenK (At.keep (ts := [2, 3, 14, 15, 16]) (ids := [2, 3, 751, 9900, 12900]) rfl rfl ?_)
   exact At.conv (.cons .q (.cons .q (.cons .q (.cons .qi (.cons .qi .nil))))) (.cons .q (.cons (BSim.cells (.cons .qc (.cons .qc (.cons .qc .nil)))) (.cons .q (.cons .q (.cons .q .nil))))) (hK5 hi5 (s5 ++ ([y7] : List (List Range))) H)
 · have H := H2 (by have := of_decide_eq_false hb6; omega)
   refine W.exit ?_
   refine At.xthen ?_
   refine At.xthen ?_
   refine At.xhere ?_
   refine At.thenC ?_
   refine W.rg env [2] [2, 751, 9900, 12900] ?_
   refine W.ret ?_
   cases H
   refine At.ren [(9900, 940), (751, 941), (12900, 942)] (K := [2, 751, 9900, 12900]) (ts := [2]) rfl rfl rfl rfl rfl ?_
   exact At.retK env.ty [940, 941, 942] 0 rfl rfl rfl rfl (.cons (.refl _) (.cons (.refl _) (.cons (.refl _) .nil))) (Sim.aggL (.cons .qc (.cons .qc (.cons .qc .nil)))) hval hdom rfl
theorem co_slices_Delete_Hand (p0 : (List Hand)) (p1 : Int) (p2 : Int) {r : (List Hand)} (H : slices_Delete_Hand p0 p1 p2 = some r) : CtrO Tryz.prog 77 [.buf 700 (p0).length, .int .i64 (p1), .int .i64 (p2)] [(700, bufL 43 3 enc_Hand p0)] (.buf 900 r.length) [(900, bufL 43 3 enc_Hand r)] := by
 unfold slices_Delete_Hand at H
 refine CtrO.of_body (N := 33) Tryz.func77 (by kernel_rfl) (c := _) rfl Tryz.ntmps77 rfl (fun w0 h0 ρb hval hdom => ?_)
 refine W.rg env [0, 1, 2] [700] ?_
 obtain ⟨hc1, H⟩ := of_must H
 refine W.sr env [] [] [0, 1, 2] [700] rfl rfl rfl (.cons (by first | rfl | (simp; done) | omega | (simp; omega)) (.cons (⟨by first | rfl | (simp; done) | omega | (simp; omega), hc1⟩) .nil)) .nil ?_
 refine W.seq ?_
 refine W.rg env [0, 1, 2, 16] [700] ?_
 refine W.cond rfl (fun hb2 => ?_) (fun hb2 => ?_)
 · have H := of_true H hb2
   refine W.rg env [6] [700] ?_
   refine W.ret ?_
   refine At.rthen ?_
   cases H
   exact At.retK env.ty [700] 200 rfl rfl rfl rfl (.cons (.refl _) .nil) (.of_eq (by refine bufEq ?_; first | (simp [copyAt]; done) | omega | (simp [copyAt]; omega) | rfl)) hval hdom rfl
 · have H := of_false H hb2
   refine W.skip ?_
   refine At.thenC ?_
   refine W.sr env [] [] [0, 1, 2, 7] [700] rfl rfl rfl (.cons (by first | rfl | (simp; done) | omega | (simp; omega)) .nil) .nil ?_
   refine W.seq ?_
   obtain ⟨hc3, H⟩ := of_must H
   obtain ⟨hc4, H⟩ := of_must H
   obtain ⟨hc5, H⟩ := of_must H
   refine W.region env [] [] rfl rfl (by first | rfl | kernel_rfl) (.cons (⟨by first | rfl | (simp; done) | omega | (simp; omega), hc3⟩) (.cons (⟨by first | rfl | (simp; done) | omega | (simp; omega), hc4⟩) (.cons (⟨rfl, rfl, by omega, by omega, by omega⟩) .nil))) .nil (At.keep (ts := [0, 7]) (ids := [26]) rfl rfl ?_)
   refine At.convM (.cons (y := bufkL 43 3 p0.length enc_Hand (p0.take ((p1).toNat) ++ p0.drop ((p2).toNat))) (BSim.kseg (Seg.moved (f := enc_Hand) (l := p0) ((p1).toNat) ((p2).toNat) (by omega) (by omega))) .nil) ?_
   refine At.thenC ?_
   refine W.seq ?_
   obtain ⟨hc6, H⟩ := of_must H
   refine W.region env [] [] rfl rfl rfl (.cons (by first | rfl | (simp; done) | omega | (simp; omega)) (.cons (⟨by first | rfl | (simp; done) | omega | (simp; omega), hc6⟩) (.cons (⟨by first | rfl | (simp; done) | omega | (simp; omega), by first | rfl | (simp; done) | omega | (simp; omega), by first | omega | (simp; omega)⟩) .nil))) .nil (At.keep (ts := [0]) (ids := [26]) rfl rfl ?_)
   refine At.convM (.cons (y := bufkL 43 3 p0.length enc_Hand (p0.take ((p1).toNat) ++ p0.drop ((p2).toNat))) (BSim.kseg (Seg.refl enc_Hand _)) .nil) ?_
   refine At.thenC ?_
   refine W.rg env [6] [26] ?_
   refine W.ret ?_
   cases H
   exact At.retK env.ty [26] 874 rfl rfl rfl rfl (.cons (.bufk (.refl _)) .nil) (.of_eq (by refine bufEq ?_; first | (simp [copyAt]; done) | omega | (simp [copyAt]; omega) | rfl)) hval hdom rfl
theorem c_crew_Ill (p0 : Crew) (p1 : Int) (p2 : Int) {r : (Crew × Int)} (H : crew_Ill p0 p1 p2 = some r) : Ctr Tryz.prog 25 [.agg [roL 4 enc_Task p0.Tasks, roL 1 enc_ListRange p0.Travel, roL 3 enc_Hand p0.Hands], .int .i64 (p1), .int .i64 (p2)] (.tup [.agg [roL 4 enc_Task r.1.Tasks, roL 1 enc_ListRange r.1.Travel, roL 3 enc_Hand r.1.Hands], .int .i64 (r.2)]) := by
 unfold crew_Ill at H
 refine Ctr.of_body (N := 61) Tryz.func25 (by kernel_rfl) (c := _) rfl Tryz.ntmps25 rfl (fun w0 h0 hval => ?_)
 refine W.rg env [2, 3, 4, 6] [3, 4, 6] ?_
 refine W.seq ?_
 refine W.seq ?_
 obtain ⟨y1, hy2, H⟩ := of_bindO H
 refine W.region env [] [⟨.int .i64 (y1), [], 0, []⟩] rfl rfl rfl .nil (.free (c_crew_Check p0 hy2) .nil) (At.keep (ts := [2, 3, 4, 6, 8]) (ids := [3, 4, 6]) rfl rfl ?_)
 refine At.thenC ?_
 refine W.rg env [2, 3, 4, 6, 8, 15] [3, 4, 6] ?_
 refine W.cond rfl (fun hb3 => ?_) (fun hb3 => ?_)
 · have H := of_true H hb3
   refine W.rg env [6, 7] [6] ?_
   refine W.ret ?_
   refine At.rthen ?_
   cases H
   exact At.ret env.ty rfl rfl (fun q hq => by cases hq) (Sim.tupL (.cons (Sim.aggL (.cons (Sim.nil _ _) (.cons (Sim.nil _ _) (.cons (Sim.nil _ _) .nil)))) (.cons (.refl _) .nil))) hval
 · have H := of_false H hb3
   refine W.skip ?_
   refine At.thenC ?_
   refine W.seq ?_
   refine W.sr env [] [⟨.bool ((crew_isMinute p2)), [], 0, []⟩] [2, 3, 4, 6, 20] [3, 4, 6] rfl rfl rfl .nil (.free (c_crew_isMinute p2) .nil) ?_
   refine W.cond rfl (fun hb4 => ?_) (fun hb4 => ?_)
   · have H := of_true H hb4
     refine W.rg env [6, 7] [6] ?_
     refine W.ret ?_
     refine At.rthen ?_
     cases H
     exact At.ret env.ty rfl rfl (fun q hq => by cases hq) (Sim.tupL (.cons (Sim.aggL (.cons (Sim.nil _ _) (.cons (Sim.nil _ _) (.cons (Sim.nil _ _) .nil)))) (.cons (.refl _) .nil))) hval
   · have H := of_false H hb4
     refine W.skip ?_
     refine At.thenC ?_
     refine W.seq ?_
     obtain ⟨y5, hy6, H⟩ := of_bindO H
     refine W.region env [] [⟨.agg [.buf 940 (y5.Tasks).length, .buf 941 (y5.Travel).length, .buf 942 (y5.Hands).length], [(940, bufL 41 4 enc_Task y5.Tasks), (941, bufL 106 1 enc_ListRange y5.Travel), (942, bufL 43 3 enc_Hand y5.Hands)], 24000, []⟩] rfl rfl (by kernel_rfl) .nil (.free ((Ctr.ofO (co_crew_copied_o0_1_2 p0 hy6))) .nil) (At.keep (ts := [2, 4, 6, 9]) (ids := [4, 6, 9, 24940, 24941, 24942]) rfl rfl ?_)
     refine At.thenC ?_
     refine W.seq ?_
     obtain ⟨y7, hy8, H⟩ := of_bindO H
     refine W.region env [] [⟨.int .i64 (y7), [], 0, []⟩] rfl rfl rfl (.cons (by first | rfl | (simp; done) | omega | (simp; omega)) .nil) (.free (c_slices_IndexFunc_Hand y5.Hands (fun x0 => some (crew_Ill_1 x0 p1)) 76 [] ([.rp [.int .i64 (p1)]]) (fun x0 r h => by cases h; exact c_crew_Ill_1 x0 p1) hy8) .nil) (At.keep (ts := [2, 6, 9, 10]) (ids := [6, 9, 24940, 24941, 24942]) rfl rfl ?_)
     refine At.thenC ?_
     refine W.seq ?_
     refine W.rg env [2, 6, 9, 10, 29] [6, 9, 24940, 24941, 24942] ?_
     refine W.cond rfl (fun hb9 => ?_) (fun hb9 => ?_)
     · have H := of_true H hb9
       refine W.rg env [6, 7] [6] ?_
       refine W.ret ?_
       refine At.rthen ?_
       cases H
       exact At.ret env.ty rfl rfl (fun q hq => by cases hq) (Sim.tupL (.cons (Sim.aggL (.cons (Sim.nil _ _) (.cons (Sim.nil _ _) (.cons (Sim.nil _ _) .nil)))) (.cons (.refl _) .nil))) hval
     · have H := of_false H hb9
       refine W.skip ?_
       refine At.thenC ?_
       obtain ⟨hc10, H⟩ := of_must H
       refine W.sr env [] [] [2, 6, 9, 10, 11] [6, 9, 24940, 24941, 24942] rfl rfl rfl (.cons (⟨by first | rfl | (simp; done) | omega | (simp; omega), hc10⟩) .nil) .nil ?_
       refine W.seq ?_
       refine W.region env [] [] rfl rfl rfl (.cons (⟨by first | rfl | (simp; done) | omega | (simp; omega), (by have := hc10; first | omega | (simp only [List.length_set]; omega) | (simp only [Int.toNat_natCast] at *; omega) | (simp at this ⊢; omega))⟩) (.cons (⟨by first | rfl | (simp; done) | omega | (simp; omega), (by have := hc10; first | omega | (simp only [List.length_set]; omega) | (simp only [Int.toNat_natCast] at *; omega) | (simp at this ⊢; omega))⟩) .nil)) .nil (At.keep (ts := [6, 9, 10, 11]) (ids := [6, 9, 24940, 24941, 24942]) rfl rfl ?_)
       refine At.convM (.cons (.refl _) (.cons (.refl _) (.cons (.refl _) (.cons (.refl _) (.cons (y := bufL 43 3 enc_Hand (y5.Hands.set (y7).toNat (⟨(y5.Hands.getD (y7).toNat default).Id, (y5.Hands.getD (y7).toNat default).From, (min ((y5.Hands.getD (y7).toNat default).To) p2)⟩ : Hand))) (BSim.seg (Seg.set (Seg.refl enc_Hand _) (⟨(y5.Hands.getD (y7).toNat default).Id, (y5.Hands.getD (y7).toNat default).From, (min ((y5.Hands.getD (y7).toNat default).To) p2)⟩ : Hand) rfl)) .nil))))) ?_
       refine At.thenC ?_
       refine W.seq ?_
       refine W.sr env [] [] [6, 9, 10, 52] [6, 9, 24940, 24941, 24942] rfl rfl (by first | rfl | kernel_rfl) (.cons (⟨by first | rfl | (simp; done) | omega | (simp; omega), (by have := hc10; first | omega | (simp only [List.length_set]; omega) | (simp only [Int.toNat_natCast] at *; omega) | (simp at this ⊢; omega))⟩) (.cons (⟨by first | rfl | (simp; done) | omega | (simp; omega), (by have := hc10; first | omega | (simp only [List.length_set]; omega) | (simp only [Int.toNat_natCast] at *; omega) | (simp at this ⊢; omega))⟩) .nil)) .nil ?_
       refine W.cond rfl (fun hb11 => ?_) (fun hb11 => ?_)
       · have H := of_true H hb11
         obtain ⟨hc12, H⟩ := of_must H
         obtain ⟨y13, hy14, H⟩ := of_bindO H
         refine W.region env [] [⟨.buf 900 y13.length, [(24942, .dead), (900, bufL 43 3 enc_Hand y13)], 59000, []⟩] rfl rfl (by kernel_rfl) (.cons hc12 .nil) (.free (CtrO.sim (CtrO.at (co_slices_Delete_Hand (y5.Hands.set (y7).toNat (⟨(y5.Hands.getD (y7).toNat default).Id, (y5.Hands.getD (y7).toNat default).From, (min ((y5.Hands.getD (y7).toNat default).To) p2)⟩ : Hand)) y7 (y7 + 1) hy14) rfl 24942) (.cons .qc (.cons (.refl _) (.cons (.refl _) .nil))) (.cons (.refl _) .nil)) .nil) (At.keep (ts := [6, 9]) (ids := [6, 9, 24940, 24941, 59900]) rfl rfl ?_)
         refine At.thenC ?_
         refine W.rg env [6, 7] [6, 24940, 24941, 59900] ?_
         refine W.ret ?_
         cases H
         exact At.ret env.ty rfl rfl (fun q hq => by cases hq; exact ⟨by first | rfl | (simp; done) | omega | (simp; omega), ⟨by first | rfl | (simp; done) | omega | (simp; omega), (by first | rfl | (simp; done) | omega | (simp; omega))⟩⟩) (.refl _) hval
       · have H := of_false H hb11
         refine W.skip ?_
         refine At.thenC ?_
         refine W.rg env [6, 7] [6, 24940, 24941, 24942] ?_
         refine W.ret ?_
         cases H
         exact At.ret env.ty rfl rfl (fun q hq => by cases hq; exact ⟨by first | rfl | (simp; done) | omega | (simp; omega), ⟨by first | rfl | (simp; done) | omega | (simp; omega), (by first | rfl | (simp; done) | omega | (simp; omega))⟩⟩) (.refl _) hval
theorem c_gasolierref04_Ill (p0 : Crew) (p1 : Int) (p2 : Int) {r : (Crew × Int)} (H : gasolierref04_Ill p0 p1 p2 = some r) : Ctr Tryz.prog 26 [.agg [roL 4 enc_Task p0.Tasks, roL 1 enc_ListRange p0.Travel, roL 3 enc_Hand p0.Hands], .int .i64 (p1), .int .i64 (p2)] (.tup [.agg [roL 4 enc_Task r.1.Tasks, roL 1 enc_ListRange r.1.Travel, roL 3 enc_Hand r.1.Hands], .int .i64 (r.2)]) := by
 unfold gasolierref04_Ill at H
 refine Ctr.of_body (N := 58) Tryz.func26 (by kernel_rfl) (c := _) rfl Tryz.ntmps26 rfl (fun w0 h0 hval => ?_)
 refine W.rg env [1, 2, 3, 6] [3, 6] ?_
 refine W.seq ?_
 refine W.seq ?_
 obtain ⟨y1, hy2, H⟩ := of_bindO H
 refine W.region env [] [⟨.int .i64 (y1), [], 0, []⟩] rfl rfl rfl .nil (.free (c_gasolierref04_Check p0 hy2) .nil) (At.keep (ts := [1, 2, 3, 6, 8]) (ids := [3, 6]) rfl rfl ?_)
 refine At.thenC ?_
 refine W.rg env [1, 2, 3, 6, 8, 16] [3, 6] ?_
 refine W.cond rfl (fun hb3 => ?_) (fun hb3 => ?_)
 · have H := of_true H hb3
   refine W.rg env [6, 7] [6] ?_
   refine W.ret ?_
   refine At.rthen ?_
   cases H
   exact At.ret env.ty rfl rfl (fun q hq => by cases hq) (Sim.tupL (.cons (Sim.aggL (.cons (Sim.nil _ _) (.cons (Sim.nil _ _) (.cons (Sim.nil _ _) .nil)))) (.cons (.refl _) .nil))) hval
 · have H := of_false H hb3
   refine W.skip ?_
   refine At.thenC ?_
   refine W.seq ?_
   refine W.sr env [] [⟨.bool ((gasolierref01_Within p2 0 1439)), [], 0, []⟩] [1, 2, 3, 6, 21] [3, 6] rfl rfl rfl .nil (.free (c_gasolierref01_Within p2 0 1439) .nil) ?_
   refine W.cond rfl (fun hb4 => ?_) (fun hb4 => ?_)
   · have H := of_true H hb4
     refine W.rg env [6, 7] [6] ?_
     refine W.ret ?_
     refine At.rthen ?_
     cases H
     exact At.ret env.ty rfl rfl (fun q hq => by cases hq) (Sim.tupL (.cons (Sim.aggL (.cons (Sim.nil _ _) (.cons (Sim.nil _ _) (.cons (Sim.nil _ _) .nil)))) (.cons (.refl _) .nil))) hval
   · have H := of_false H hb4
     refine W.skip ?_
     refine At.thenC ?_
     refine W.seq ?_
     obtain ⟨y5, hy6, H⟩ := of_bindO H
     refine W.region env [] [⟨.agg [roL 4 enc_Task y5.Tasks, roL 1 enc_ListRange y5.Travel, roL 3 enc_Hand y5.Hands], [], 0, []⟩] rfl rfl rfl .nil (.free (c_gasolierref04_Copy p0 hy6) .nil) (At.keep (ts := [1, 2, 3, 6, 9]) (ids := [3, 6, 9]) rfl rfl ?_)
     refine At.thenC ?_
     refine W.rg env [1, 2, 3, 6, 9] [3, 6, 9] ?_
     refine W.rg env [1, 2, 3, 6, 9, 10] [3, 6, 9] ?_
     refine W.seq ?_
     refine W.rg env [1, 2, 6, 9, 10, 27, 28, 29] [6, 9] ?_
     refine W.block ?_
     refine At.nilOwnCell 9 2 1052 43 3 (e := fun i => enc_Hand (([] : List Hand).getD i default)) rfl rfl rfl ?_
     refine At.keep (ts := [1, 2, 6, 9, 10, 27, 28, 29]) (ids := [6, 9, 1052]) rfl rfl ?_
     refine W.len (t := 27) rfl (fun (hn7 : p0.Hands.length ≤ maxLen) => ?_)
     refine W.rangeGo H (fun i7 (s7 : Bool × (List Hand)) => [(1, .int .i64 (p1)), (2, .int .i64 (p2)), (6, .lp 6 0), (9, .lp 9 0), (10, .bool (s7.1)), (27, roL 3 enc_Hand p0.Hands), (28, .int .i64 (((p0.Hands.length : Nat) : Int))), (29, .int .i64 ((i7 : Int)))]) (fun i7 (s7 : Bool × (List Hand)) => [(6, .cells [.nilS, .nilS, .nilS]), (9, .cells [roL 4 enc_Task y5.Tasks, roL 1 enc_ListRange y5.Travel, .buf 1052 (s7.2).length]), (1052, bufL 43 3 enc_Hand s7.2)]) (.cons .qi (.cons .qi (.cons .q (.cons .q (.cons .q (.cons .q (.cons .qi (.cons .qi .nil)))))))) (.cons .q (.cons (BSim.cells (.cons .q (.cons .q (.cons .qc .nil)))) (.cons .q .nil))) (fun k7 i7 s7 hle7 H1 H2 K0 hK7 => ?_)
     refine W.rg env [1, 2, 6, 9, 10, 27, 28, 29, 30] [6, 9, 1052] ?_
     refine W.seq ?_
     refine W.cond rfl (fun hb8 => ?_) (fun hb8 => ?_)
     · have hi7 : i7 < p0.Hands.length := by have := of_decide_eq_true hb8; omega
       have H := H1 hi7
       refine W.skip ?_
       refine At.thenC ?_
       refine W.seq ?_
       refine W.block ?_
       refine W.sr env [] [] [1, 2, 6, 9, 10, 12, 27, 28, 29] [6, 9, 12, 1052] rfl rfl rfl (.cons (⟨by omega, by omega⟩ : 0 ≤ (i7 : Int) ∧ (i7 : Int) < ((p0.Hands.length : Nat) : Int)) .nil) .nil ?_
       refine W.seq ?_
       refine W.rg env [1, 2, 6, 9, 10, 12, 27, 28, 29, 36] [6, 9, 12, 1052] ?_
       refine W.joinC H (fun (s9 : Bool × Int) => [(1, .int .i64 (p1)), (2, .int .i64 (p2)), (6, .lp 6 0), (9, .lp 9 0), (10, .bool (s9.1)), (12, .lp 12 0), (27, roL 3 enc_Hand p0.Hands), (28, .int .i64 (((p0.Hands.length : Nat) : Int))), (29, .int .i64 ((i7 : Int)))]) (fun (s9 : Bool × Int) => [(6, .cells [.nilS, .nilS, .nilS]), (9, .cells [roL 4 enc_Task y5.Tasks, roL 1 enc_ListRange y5.Travel, .buf 1052 (s7.2).length]), (12, .cells [.int .i64 ((p0.Hands.getD i7 default).Id), .int .i64 ((p0.Hands.getD i7 default).From), .int .i64 (s9.2)]), (1052, bufL 43 3 enc_Hand s7.2)]) (fun s9 H => ?_) (fun k9 H hK9 => ?_)
       · refine W.rg env [1, 2, 6, 9, 10, 12, 27, 28, 29, 46] [6, 9, 12, 1052] ?_
         refine W.cond rfl (fun hb10 => ?_) (fun hb10 => ?_)
         · have H := of_true H hb10
           obtain ⟨hc11, H⟩ := of_must H
           refine W.region env [] [] rfl rfl rfl (.cons (⟨by first | rfl | (simp; done) | omega | (simp; omega), by have := hc11; first | simpa using this | (unfold room at this ⊢; simp at this ⊢; omega)⟩) .nil) .nil (At.keep (ts := [1, 2, 6, 9, 10, 27, 28, 29]) (ids := [6, 9, 1052]) rfl rfl ?_)
           refine At.convM (.cons (.refl _) (.cons (.refl _) (.cons (y := bufL 43 3 enc_Hand (s7.2 ++ ([(⟨(p0.Hands.getD i7 default).Id, (p0.Hands.getD i7 default).From, s9.2⟩ : Hand)] : List Hand))) (BSim.seg (Seg.push (Seg.refl enc_Hand _) (Seg.lit (f := enc_Hand) (sz := 3) ([(⟨(p0.Hands.getD i7 default).Id, (p0.Hands.getD i7 default).From, s9.2⟩ : Hand)] : List Hand) rfl rfl (fun _ => rfl)))) .nil))) ?_
           refine At.inb ?_
           refine At.thenC ?_
           refine W.region env [] [] rfl rfl rfl (.cons (by unfold inI; have := hn7; (try unfold maxLen at this); omega) .nil) .nil (At.keep (ts := [1, 2, 6, 9, 10, 27, 28, 29]) (ids := [6, 9, 1052]) rfl rfl ?_)
           refine At.thenK (At.keep (ts := [1, 2, 6, 9, 10, 27, 28, 29]) (ids := [6, 9, 1052]) rfl rfl ?_)
           exact At.conv (.cons .qi (.cons .qi (.cons .q (.cons .q (.cons .q (.cons .q (.cons .qi (.cons .qi .nil)))))))) (.cons .q (.cons (BSim.cells (.cons .q (.cons .q (.cons .qc .nil)))) (.cons .q .nil))) (hK7 hi7 (s9.1, (s7.2 ++ ([(⟨(p0.Hands.getD i7 default).Id, (p0.Hands.getD i7 default).From, s9.2⟩ : Hand)] : List Hand))) H)
         · have H := of_false H hb10
           refine W.skip ?_
           refine At.inb ?_
           refine At.thenC ?_
           refine W.region env [] [] rfl rfl rfl (.cons (by unfold inI; have := hn7; (try unfold maxLen at this); omega) .nil) .nil (At.keep (ts := [1, 2, 6, 9, 10, 27, 28, 29]) (ids := [6, 9, 1052]) rfl rfl ?_)
           refine At.thenK (At.keep (ts := [1, 2, 6, 9, 10, 27, 28, 29]) (ids := [6, 9, 1052]) rfl rfl ?_)
           exact At.conv (.cons .qi (.cons .qi (.cons .q (.cons .q (.cons .q (.cons .q (.cons .qi (.cons .qi .nil)))))))) (.cons .q (.cons (BSim.cells (.cons .q (.cons .q (.cons .qc .nil)))) (.cons .q .nil))) (hK7 hi7 (s9.1, s7.2) H)
       · refine W.cond rfl (fun hb12 => ?_) (fun hb12 => ?_)
         · have H := of_true H hb12
           refine W.rg env [1, 2, 6, 9, 10, 12, 27, 28, 29] [6, 9, 12, 1052] ?_
           refine W.region env [] [] rfl rfl rfl .nil .nil (At.keep (ts := [1, 2, 6, 9, 10, 12, 27, 28, 29]) (ids := [6, 9, 12, 1052]) rfl rfl ?_)
           refine At.thenK (At.keep (ts := [1, 2, 6, 9, 10, 12, 27, 28, 29]) (ids := [6, 9, 12, 1052]) rfl rfl ?_)
           exact At.conv (.cons .qi (.cons .qi (.cons .q (.cons .q (.cons .q (.cons .q (.cons .q (.cons .qi (.cons .qi .nil))))))))) (.cons .q (.cons (BSim.cells (.cons .q (.cons .q (.cons .qc .nil)))) (.cons .q (.cons .q .nil)))) (hK9 (true, (min ((p0.Hands.getD i7 default).To) p2)) H)
         · have H := of_false H hb12
           refine W.skip ?_
           refine At.thenK (At.keep (ts := [1, 2, 6, 9, 10, 12, 27, 28, 29]) (ids := [6, 9, 12, 1052]) rfl rfl ?_)
           exact At.conv (.cons .qi (.cons .qi (.cons .q (.cons .q (.cons .q (.cons .q (.cons .q (.cons .qi (.cons .qi .nil))))))))) (.cons .q (.cons (BSim.cells (.cons .q (.cons .q (.cons .qc .nil)))) (.cons .q (.cons .q .nil)))) (hK9 (s7.1, (p0.Hands.getD i7 default).To) H)
     · have H := H2 (by have := of_decide_eq_false hb8; omega)
       refine W.exit ?_
       refine At.xthen ?_
       refine At.xthen ?_
       refine At.xhere ?_
       refine At.thenC ?_
       refine W.seq ?_
       refine W.rg env [6, 9, 55] [6, 9, 1052] ?_
       refine W.cond rfl (fun hb13 => ?_) (fun hb13 => ?_)
       · have H := of_true H hb13
         refine W.rg env [6, 7] [6] ?_
         refine W.ret ?_
         refine At.rthen ?_
         cases H
         exact At.ret env.ty rfl rfl (fun q hq => by cases hq) (Sim.tupL (.cons (Sim.aggL (.cons (Sim.nil _ _) (.cons (Sim.nil _ _) (.cons (Sim.nil _ _) .nil)))) (.cons (.refl _) .nil))) hval
       · have H := of_false H hb13
         refine W.skip ?_
         refine At.thenC ?_
         refine W.rg env [6, 7] [6, 1052] ?_
         refine W.ret ?_
         cases H
         exact At.ret env.ty rfl rfl (fun q hq => by cases hq; exact (by first | rfl | (simp; done) | omega | (simp; omega))) (.refl _) hval
theorem c_gasolierref04_SameCrew (p0 : Crew) (p1 : Crew) {r : Bool} (H : gasolierref04_SameCrew p0 p1 = some r) : Ctr Tryz.prog 27 [.agg [roL 4 enc_Task p0.Tasks, roL 1 enc_ListRange p0.Travel, roL 3 enc_Hand p0.Hands], .agg [roL 4 enc_Task p1.Tasks, roL 1 enc_ListRange p1.Travel, roL 3 enc_Hand p1.Hands]] (.bool (r)) := by
 unfold gasolierref04_SameCrew at H
 refine Ctr.of_body (N := 117) Tryz.func27 (by kernel_rfl) (c := _) rfl Tryz.ntmps27 rfl (fun w0 h0 hval => ?_)
 refine W.rg env [2, 3] [2, 3] ?_
 refine W.seq ?_
 refine W.sr env [] [] [2, 3, 33] [2, 3] rfl rfl rfl (.cons (fun h => h) (.cons (fun h => h) (.cons (fun h => h) (.cons (fun h => h) (.cons (fun h => h) (.cons (fun h => h) (.cons (fun h => by rw [h]; rfl) (.cons (fun h => h) (.cons (fun h => h) (.cons (fun h => h) (.cons (fun h => h) (.cons (fun h => h) (.cons (fun h => h) (.cons (fun h => by rw [h]; rfl) .nil)))))))))))))) .nil ?_
 refine W.cond rfl (fun hb1 => ?_) (fun hb1 => ?_)
 · have H := of_true H hb1
   refine W.rg env [4] [] ?_
   refine W.ret ?_
   refine At.rthen ?_
   cases H
   exact At.ret env.ty rfl rfl (fun q hq => by cases hq) (.refl _) hval
 · have H := of_false H hb1
   refine W.skip ?_
   refine At.thenC ?_
   refine W.seq ?_
   refine W.rg env [2, 3, 36, 37] [2, 3] ?_
   refine W.block ?_
   refine At.keep (ts := [2, 3, 36, 37]) (ids := [2, 3]) rfl rfl ?_
   obtain ⟨hn2, H⟩ := of_must H
   refine W.rangeGo H (fun i2 (s2 : Unit) => [(2, .lp 2 0), (3, .lp 3 0), (36, .int .i64 (((p0.Tasks.length : Nat) : Int))), (37, .int .i64 ((i2 : Int)))]) (fun i2 (s2 : Unit) => [(2, .cells [roL 4 enc_Task p0.Tasks, roL 1 enc_ListRange p0.Travel, roL 3 enc_Hand p0.Hands]), (3, .cells [roL 4 enc_Task p1.Tasks, roL 1 enc_ListRange p1.Travel, roL 3 enc_Hand p1.Hands])]) (.cons .q (.cons .q (.cons .qi (.cons .qi .nil)))) (.cons .q (.cons .q .nil)) (fun k2 i2 s2 hle2 H1 H2 K0 hK2 => ?_)
   refine W.rg env [2, 3, 36, 37, 38] [2, 3] ?_
   refine W.seq ?_
   refine W.cond rfl (fun hb3 => ?_) (fun hb3 => ?_)
   · have hi2 : i2 < p0.Tasks.length := by have := of_decide_eq_true hb3; omega
     have H := H1 hi2
     refine W.skip ?_
     refine At.thenC ?_
     refine W.seq ?_
     refine W.block ?_
     refine W.rg env [2, 3, 5, 36, 37] [2, 3] ?_
     obtain ⟨hc4, H⟩ := of_must H
     refine W.sr env [] [] [2, 3, 36, 37, 50] [2, 3] rfl rfl (by first | rfl | kernel_rfl) (.cons (⟨by omega, by omega⟩ : 0 ≤ (i2 : Int) ∧ (i2 : Int) < ((p0.Tasks.length : Nat) : Int)) (.cons hc4 .nil)) .nil ?_
     refine W.cond rfl (fun hb5 => ?_) (fun hb5 => ?_)
     · have H := of_true H hb5
       refine W.rg env [4] [] ?_
       refine W.ret ?_
       refine At.rinb ?_
       refine At.rthen ?_
       refine At.rthen ?_
       refine At.rinb ?_
       refine At.rthen ?_
       cases H
       exact At.ret env.ty rfl rfl (fun q hq => by cases hq) (.refl _) hval
     · have H := of_false H hb5
       refine W.skip ?_
       refine At.inb ?_
       refine At.thenC ?_
       refine W.region env [] [] rfl rfl rfl (.cons (by unfold inI; have := hn2; (try unfold maxLen at this); omega) .nil) .nil (At.keep (ts := [2, 3, 36, 37]) (ids := [2, 3]) rfl rfl ?_)
       refine At.thenK (At.keep (ts := [2, 3, 36, 37]) (ids := [2, 3]) rfl rfl ?_)
       exact At.conv (.cons .q (.cons .q (.cons .qi (.cons .qi .nil)))) (.cons .q (.cons .q .nil)) (hK2 hi2 () H)
   · have H := H2 (by have := of_decide_eq_false hb3; omega)
     refine W.exit ?_
     refine At.xthen ?_
     refine At.xthen ?_
     refine At.xhere ?_
     refine At.thenC ?_
     refine W.seq ?_
     refine W.rg env [2, 3, 54, 55] [2, 3] ?_
     refine W.block ?_
     refine At.keep (ts := [2, 3, 54, 55]) (ids := [2, 3]) rfl rfl ?_
     obtain ⟨hn6, H⟩ := of_must H
     refine W.rangeGo H (fun i6 (s6 : Unit) => [(2, .lp 2 0), (3, .lp 3 0), (54, .int .i64 (((p0.Hands.length : Nat) : Int))), (55, .int .i64 ((i6 : Int)))]) (fun i6 (s6 : Unit) => [(2, .cells [roL 4 enc_Task p0.Tasks, roL 1 enc_ListRange p0.Travel, roL 3 enc_Hand p0.Hands]), (3, .cells [roL 4 enc_Task p1.Tasks, roL 1 enc_ListRange p1.Travel, roL 3 enc_Hand p1.Hands])]) (.cons .q (.cons .q (.cons .qi (.cons .qi .nil)))) (.cons .q (.cons .q .nil)) (fun k6 i6 s6 hle6 H1 H2 K0 hK6 => ?_)
     refine W.rg env [2, 3, 54, 55, 56] [2, 3] ?_
     refine W.seq ?_
     refine W.cond rfl (fun hb7 => ?_) (fun hb7 => ?_)
     · have hi6 : i6 < p0.Hands.length := by have := of_decide_eq_true hb7; omega
       have H := H1 hi6
       refine W.skip ?_
       refine At.thenC ?_
       refine W.seq ?_
       refine W.block ?_
       refine W.rg env [2, 3, 6, 54, 55] [2, 3] ?_
       obtain ⟨hc8, H⟩ := of_must H
       refine W.sr env [] [] [2, 3, 54, 55, 68] [2, 3] rfl rfl (by first | rfl | kernel_rfl) (.cons (⟨by omega, by omega⟩ : 0 ≤ (i6 : Int) ∧ (i6 : Int) < ((p0.Hands.length : Nat) : Int)) (.cons hc8 .nil)) .nil ?_
       refine W.cond rfl (fun hb9 => ?_) (fun hb9 => ?_)
       · have H := of_true H hb9
         refine W.rg env [4] [] ?_
         refine W.ret ?_
         refine At.rinb ?_
         refine At.rthen ?_
         refine At.rthen ?_
         refine At.rinb ?_
         refine At.rthen ?_
         cases H
         exact At.ret env.ty rfl rfl (fun q hq => by cases hq) (.refl _) hval
       · have H := of_false H hb9
         refine W.skip ?_
         refine At.inb ?_
         refine At.thenC ?_
         refine W.region env [] [] rfl rfl rfl (.cons (by unfold inI; have := hn6; (try unfold maxLen at this); omega) .nil) .nil (At.keep (ts := [2, 3, 54, 55]) (ids := [2, 3]) rfl rfl ?_)
         refine At.thenK (At.keep (ts := [2, 3, 54, 55]) (ids := [2, 3]) rfl rfl ?_)
         exact At.conv (.cons .q (.cons .q (.cons .qi (.cons .qi .nil)))) (.cons .q (.cons .q .nil)) (hK6 hi6 () H)
     · have H := H2 (by have := of_decide_eq_false hb7; omega)
       refine W.exit ?_
       refine At.xthen ?_
       refine At.xthen ?_
       refine At.xhere ?_
       refine At.thenC ?_
       refine W.seq ?_
       refine W.rg env [2, 3, 72, 73] [2, 3] ?_
       refine W.block ?_
       refine At.keep (ts := [2, 3, 72, 73]) (ids := [2, 3]) rfl rfl ?_
       obtain ⟨hn10, H⟩ := of_must H
       refine W.rangeGo H (fun i10 (s10 : Unit) => [(2, .lp 2 0), (3, .lp 3 0), (72, .int .i64 (((p0.Travel.length : Nat) : Int))), (73, .int .i64 ((i10 : Int)))]) (fun i10 (s10 : Unit) => [(2, .cells [roL 4 enc_Task p0.Tasks, roL 1 enc_ListRange p0.Travel, roL 3 enc_Hand p0.Hands]), (3, .cells [roL 4 enc_Task p1.Tasks, roL 1 enc_ListRange p1.Travel, roL 3 enc_Hand p1.Hands])]) (.cons .q (.cons .q (.cons .qi (.cons .qi .nil)))) (.cons .q (.cons .q .nil)) (fun k10 i10 s10 hle10 H1 H2 K0 hK10 => ?_)
       refine W.rg env [2, 3, 72, 73, 74] [2, 3] ?_
       refine W.seq ?_
       refine W.cond rfl (fun hb11 => ?_) (fun hb11 => ?_)
       · have hi10 : i10 < p0.Travel.length := by have := of_decide_eq_true hb11; omega
         have H := H1 hi10
         refine W.skip ?_
         refine At.thenC ?_
         refine W.seq ?_
         refine W.block ?_
         refine W.rg env [2, 3, 7, 72, 73] [2, 3] ?_
         refine W.seq ?_
         obtain ⟨hc12, H⟩ := of_must H
         refine W.sr env [] [] [2, 3, 7, 72, 73, 88] [2, 3] rfl rfl (by first | rfl | kernel_rfl) (.cons (⟨by omega, by omega⟩ : 0 ≤ (i10 : Int) ∧ (i10 : Int) < ((p0.Travel.length : Nat) : Int)) (.cons hc12 .nil)) .nil ?_
         refine W.cond rfl (fun hb13 => ?_) (fun hb13 => ?_)
         · have H := of_true H hb13
           refine W.rg env [4] [] ?_
           refine W.ret ?_
           refine At.rthen ?_
           refine At.rinb ?_
           refine At.rthen ?_
           refine At.rthen ?_
           refine At.rinb ?_
           refine At.rthen ?_
           cases H
           exact At.ret env.ty rfl rfl (fun q hq => by cases hq) (.refl _) hval
         · have H := of_false H hb13
           refine W.skip ?_
           refine At.thenC ?_
           refine W.sr env [] [] [2, 3, 7, 72, 73, 94, 95] [2, 3] rfl rfl rfl (.cons (⟨by omega, by omega⟩ : 0 ≤ (i10 : Int) ∧ (i10 : Int) < ((p0.Travel.length : Nat) : Int)) .nil) .nil ?_
           refine W.block ?_
           refine At.keep (ts := [2, 3, 7, 72, 73, 94, 95]) (ids := [2, 3]) rfl rfl ?_
           obtain ⟨hn14, H⟩ := of_must H
           refine W.rangeGo H (fun i14 (s14 : Unit) => [(2, .lp 2 0), (3, .lp 3 0), (7, .int .i64 ((i10 : Int))), (72, .int .i64 (((p0.Travel.length : Nat) : Int))), (73, .int .i64 ((i10 : Int))), (94, .int .i64 ((((p0.Travel.getD i10 default).length : Nat) : Int))), (95, .int .i64 ((i14 : Int)))]) (fun i14 (s14 : Unit) => [(2, .cells [roL 4 enc_Task p0.Tasks, roL 1 enc_ListRange p0.Travel, roL 3 enc_Hand p0.Hands]), (3, .cells [roL 4 enc_Task p1.Tasks, roL 1 enc_ListRange p1.Travel, roL 3 enc_Hand p1.Hands])]) (.cons .q (.cons .q (.cons .qi (.cons .qi (.cons .qi (.cons .qi (.cons .qi .nil))))))) (.cons .q (.cons .q .nil)) (fun k14 i14 s14 hle14 H1 H2 K0 hK14 => ?_)
           refine W.rg env [2, 3, 7, 72, 73, 94, 95, 96] [2, 3] ?_
           refine W.seq ?_
           refine W.cond rfl (fun hb15 => ?_) (fun hb15 => ?_)
           · have hi14 : i14 < (p0.Travel.getD i10 default).length := by have := of_decide_eq_true hb15; omega
             have H := H1 hi14
             refine W.skip ?_
             refine At.thenC ?_
             refine W.seq ?_
             refine W.block ?_
             refine W.rg env [2, 3, 7, 8, 72, 73, 94, 95] [2, 3] ?_
             obtain ⟨hc16, H⟩ := of_must H
             obtain ⟨hc17, H⟩ := of_must H
             refine W.sr env [] [] [2, 3, 7, 72, 73, 94, 95, 114] [2, 3] rfl rfl (by first | rfl | kernel_rfl) (.cons (⟨by omega, by omega⟩ : 0 ≤ (i10 : Int) ∧ (i10 : Int) < ((p0.Travel.length : Nat) : Int)) (.cons (⟨by omega, by omega⟩ : 0 ≤ (i14 : Int) ∧ (i14 : Int) < (((p0.Travel.getD i10 default).length : Nat) : Int)) (.cons hc16 (.cons hc17 .nil)))) .nil ?_
             refine W.cond rfl (fun hb18 => ?_) (fun hb18 => ?_)
             · have H := of_true H hb18
               refine W.rg env [4] [] ?_
               refine W.ret ?_
               refine At.rinb ?_
               refine At.rthen ?_
               refine At.rthen ?_
               refine At.rinb ?_
               refine At.rinb ?_
               refine At.rthen ?_
               refine At.rthen ?_
               refine At.rinb ?_
               refine At.rthen ?_
               cases H
               exact At.ret env.ty rfl rfl (fun q hq => by cases hq) (.refl _) hval
             · have H := of_false H hb18
               refine W.skip ?_
               refine At.inb ?_
               refine At.thenC ?_
               refine W.region env [] [] rfl rfl rfl (.cons (by unfold inI; have := hn14; (try unfold maxLen at this); omega) .nil) .nil (At.keep (ts := [2, 3, 7, 72, 73, 94, 95]) (ids := [2, 3]) rfl rfl ?_)
               refine At.thenK (At.keep (ts := [2, 3, 7, 72, 73, 94, 95]) (ids := [2, 3]) rfl rfl ?_)
               exact At.conv (.cons .q (.cons .q (.cons .qi (.cons .qi (.cons .qi (.cons .qi (.cons .qi .nil))))))) (.cons .q (.cons .q .nil)) (hK14 hi14 () H)
           · have H := H2 (by have := of_decide_eq_false hb15; omega)
             refine W.exit ?_
             refine At.xthen ?_
             refine At.xthen ?_
             refine At.xhere ?_
             refine At.inb ?_
             refine At.thenC ?_
             refine W.region env [] [] rfl rfl rfl (.cons (by unfold inI; have := hn10; (try unfold maxLen at this); omega) .nil) .nil (At.keep (ts := [2, 3, 72, 73]) (ids := [2, 3]) rfl rfl ?_)
             refine At.thenK (At.keep (ts := [2, 3, 72, 73]) (ids := [2, 3]) rfl rfl ?_)
             exact At.conv (.cons .q (.cons .q (.cons .qi (.cons .qi .nil)))) (.cons .q (.cons .q .nil)) (hK10 hi10 () H)
       · have H := H2 (by have := of_decide_eq_false hb11; omega)
         refine W.exit ?_
         refine At.xthen ?_
         refine At.xthen ?_
         refine At.xhere ?_
         refine At.thenC ?_
         refine W.rg env [4] [] ?_
         refine W.ret ?_
         cases H
         exact At.ret env.ty rfl rfl (fun q hq => by cases hq) (.refl _) hval
theorem c_gasolierlaw04_team  : Ctr Tryz.prog 63 [] (.agg [roL 4 enc_Task ((gasolierlaw04_team).Tasks), roL 1 enc_ListRange ((gasolierlaw04_team).Travel), roL 3 enc_Hand ((gasolierlaw04_team).Hands)]) := by
 obtain ⟨r, H⟩ : ∃ r, gasolierlaw04_team = r := ⟨_, rfl⟩
 rw [H]
 unfold gasolierlaw04_team at H
 refine Ctr.of_body (N := 17) Tryz.func63 (by kernel_rfl) (c := _) rfl Tryz.ntmps63 rfl (fun w0 h0 hval => ?_)
 refine W.rg env [0] [0] ?_
 refine W.rg env [0] [0] ?_
 refine W.ret ?_
 cases H
 exact At.ret env.ty rfl rfl (fun q hq => by cases hq) (Sim.aggL (.cons (Sim.lit (f := enc_Task) ([(⟨1, 0, 300, 2⟩ : Task), (⟨2, 1, 320, 2⟩ : Task), (⟨3, 0, 325, 2⟩ : Task), (⟨4, 1, 350, 2⟩ : Task)] : List Task) rfl rfl (fun _ => rfl)) (.cons (Sim.lit2 (f := enc_ListRange) ([([(⟨0, 0⟩ : Range), (⟨10, 20⟩ : Range)] : List Range), ([(⟨10, 20⟩ : Range), (⟨0, 0⟩ : Range)] : List Range)] : List (List Range)) (.cons (Sim.lit (f := enc_Range) ([(⟨0, 0⟩ : Range), (⟨10, 20⟩ : Range)] : List Range) rfl rfl (fun _ => rfl)) (.cons (Sim.lit (f := enc_Range) ([(⟨10, 20⟩ : Range), (⟨0, 0⟩ : Range)] : List Range) rfl rfl (fun _ => rfl)) .nil)) rfl rfl (fun _ => rfl)) (.cons (Sim.lit (f := enc_Hand) ([(⟨7, 290, 400⟩ : Hand), (⟨8, 310, 330⟩ : Hand)] : List Hand) rfl rfl (fun _ => rfl)) .nil)))) hval
theorem c_crew_spare (p0 : Crew) (p1 : Int) (p2 : Int) (p3 : Range → Option Int) (p3_g : Nat) (p3_a p3_b : List AV) (p3_h : ∀ x0 r, p3 x0 = some r → Ctr Tryz.prog p3_g (p3_a ++ ([.agg [.int .i64 (x0.Lo), .int .i64 (x0.Hi)]] ++ p3_b)) (.int .i64 (r))) {r : Int} (H : crew_spare p0 p1 p2 p3 = some r) : Ctr Tryz.prog 81 [.agg [roL 4 enc_Task p0.Tasks, roL 1 enc_ListRange p0.Travel, roL 3 enc_Hand p0.Hands], .int .i64 (p1), .int .i64 (p2), .clo (.func p3_g) p3_a p3_b] (.int .i64 (r)) := by
 unfold crew_spare at H
 refine Ctr.of_body (N := 42) Tryz.func81 (by kernel_rfl) (c := _) rfl Tryz.ntmps81 rfl (fun w0 h0 hval => ?_)
 refine W.rg env [1, 2, 3, 4] [4] ?_
 obtain ⟨hc1, H⟩ := of_must H
 obtain ⟨hc2, H⟩ := of_must H
 refine W.sr env [] [] [3, 4, 9, 10] [4, 9, 10] rfl rfl (by first | rfl | kernel_rfl) (.cons hc1 (.cons hc2 .nil)) .nil ?_
 refine W.seq ?_
 obtain ⟨hc3, H⟩ := of_must H
 obtain ⟨hc4, H⟩ := of_must H
 obtain ⟨hc5, H⟩ := of_must H
 obtain ⟨hc6, H⟩ := of_must H
 obtain ⟨y7, hy8, H⟩ := of_bindO H
 obtain ⟨hc9, H⟩ := of_must H
 refine W.region env [] [⟨.int .i64 (y7), [], 0, []⟩] rfl rfl (by kernel_rfl) (.cons hc3 (.cons hc4 (.cons hc5 (.cons hc6 (.cons hc9 .nil))))) (.free (p3_h ((p0.Travel.getD ((p0.Tasks.getD (p1).toNat default).Place).toNat default).getD ((p0.Tasks.getD (p2).toNat default).Place).toNat default) _ hy8) .nil) (At.keep (ts := [8]) (ids := []) rfl rfl ?_)
 refine At.thenC ?_
 refine W.ret ?_
 cases H
 exact At.ret env.ty rfl rfl (fun q hq => by cases hq) (.refl _) hval
theorem c_crew_least (p0 : Range) : Ctr Tryz.prog 93 [.agg [.int .i64 (p0.Lo), .int .i64 (p0.Hi)]] (.int .i64 ((crew_least p0))) := by
 obtain ⟨r, H⟩ : ∃ r, crew_least p0 = r := ⟨_, rfl⟩
 rw [H]
 unfold crew_least at H
 refine Ctr.of_body (N := 5) Tryz.func93 (by kernel_rfl) (c := _) rfl Tryz.ntmps93 rfl (fun w0 h0 hval => ?_)
 refine W.rg env [1] [1] ?_
 refine W.rg env [2] [] ?_
 refine W.ret ?_
 cases H
 exact At.ret env.ty rfl rfl (fun q hq => by cases hq) (.refl _) hval
theorem c_crew_most (p0 : Range) : Ctr Tryz.prog 35 [.agg [.int .i64 (p0.Lo), .int .i64 (p0.Hi)]] (.int .i64 ((crew_most p0))) := by
 obtain ⟨r, H⟩ : ∃ r, crew_most p0 = r := ⟨_, rfl⟩
 rw [H]
 unfold crew_most at H
 refine Ctr.of_body (N := 5) Tryz.func35 (by kernel_rfl) (c := _) rfl Tryz.ntmps35 rfl (fun w0 h0 hval => ?_)
 refine W.rg env [1] [1] ?_
 refine W.rg env [2] [] ?_
 refine W.ret ?_
 cases H
 exact At.ret env.ty rfl rfl (fun q hq => by cases hq) (.refl _) hval
theorem c_crew_Follows (p0 : Crew) (p1 : Int) (p2 : Int) {r : (Int × Int)} (H : crew_Follows p0 p1 p2 = some r) : Ctr Tryz.prog 64 [.agg [roL 4 enc_Task p0.Tasks, roL 1 enc_ListRange p0.Travel, roL 3 enc_Hand p0.Hands], .int .i64 (p1), .int .i64 (p2)] (.tup [.int .i64 (r.1), .int .i64 (r.2)]) := by
 unfold crew_Follows at H
 refine Ctr.of_body (N := 49) Tryz.func64 (by kernel_rfl) (c := _) rfl Tryz.ntmps64 rfl (fun w0 h0 hval => ?_)
 refine W.rg env [1, 2, 3] [3] ?_
 refine W.seq ?_
 obtain ⟨y1, hy2, H⟩ := of_bindO H
 refine W.region env [] [⟨.int .i64 (y1), [], 0, []⟩] rfl rfl rfl .nil (.free (c_crew_Check p0 hy2) .nil) (At.keep (ts := [1, 2, 3, 8]) (ids := [3]) rfl rfl ?_)
 refine At.thenC ?_
 refine W.seq ?_
 refine W.block ?_
 refine W.rg env [1, 2, 3, 8, 11] [3] ?_
 refine W.cond rfl (fun hb3 => ?_) (fun hb3 => ?_)
 · have H := of_true H hb3
   refine W.rg env [6, 7] [] ?_
   refine W.ret ?_
   refine At.rinb ?_
   refine At.rthen ?_
   cases H
   exact At.ret env.ty rfl rfl (fun q hq => by cases hq) (.refl _) hval
 · have H := of_false H hb3
   obtain ⟨hc4, H⟩ := of_must H
   obtain ⟨hc5, H⟩ := of_must H
   refine W.sr env [] [⟨.bool ((crew_in p1 0 (((p0.Tasks.length : Nat) : Int) - 1))), [], 0, []⟩, ⟨.bool ((crew_in p2 0 (((p0.Tasks.length : Nat) : Int) - 1))), [], 0, []⟩] [1, 2, 3, 15] [3] rfl rfl rfl (.cons hc4 (.cons (fun h => h) (.cons (fun h => h) (.cons hc5 (.cons (fun h => h) (.cons (fun h => h) (.cons (fun h => h) (.cons (fun h => h) (.cons (fun h => by rw [h]; rfl) .nil))))))))) (.free (c_crew_in p1 0 (((p0.Tasks.length : Nat) : Int) - 1)) (.on (fun hW => c_crew_in p2 0 (((p0.Tasks.length : Nat) : Int) - 1)) .nil)) ?_
   refine W.cond rfl (fun hb6 => ?_) (fun hb6 => ?_)
   · have H := of_true H hb6
     refine W.rg env [6, 7] [] ?_
     refine W.ret ?_
     refine At.rinb ?_
     refine At.rthen ?_
     cases H
     exact At.ret env.ty rfl rfl (fun q hq => by cases hq) (.refl _) hval
   · have H := of_false H hb6
     refine W.seq ?_
     obtain ⟨y7, hy8, H⟩ := of_bindO H
     refine W.region env [] [⟨.int .i64 (y7), [], 0, []⟩] rfl rfl rfl (.cons (fun h => h) (.cons (fun h => h) (.cons (fun h => h) (.cons (fun h => h) (.cons (fun h => by rw [h]; rfl) .nil))))) (.on (fun hW => c_crew_spare p0 p1 p2 (fun x0 => some (crew_least x0)) 93 [] [] (fun x0 r h => by cases h; exact c_crew_least x0) (of_true hy8 hW)) .nil) (At.keep (ts := [1, 2, 3, 32]) (ids := [3]) rfl rfl ?_)
     refine At.thenC ?_
     refine W.cond rfl (fun hb9 => ?_) (fun hb9 => ?_)
     · have H := of_true H hb9
       refine W.rg env [6, 7] [] ?_
       refine W.ret ?_
       refine At.rinb ?_
       refine At.rthen ?_
       cases H
       exact At.ret env.ty rfl rfl (fun q hq => by cases hq) (.refl _) hval
     · have H := of_false H hb9
       refine W.seq ?_
       obtain ⟨y10, hy11, H⟩ := of_bindO H
       refine W.region env [] [⟨.int .i64 (y10), [], 0, []⟩] rfl rfl rfl .nil (.free (c_crew_spare p0 p1 p2 (fun x0 => some (crew_most x0)) 35 [] [] (fun x0 r h => by cases h; exact c_crew_most x0) hy11) .nil) (At.keep (ts := [43]) (ids := []) rfl rfl ?_)
       refine At.thenC ?_
       refine W.cond rfl (fun hb12 => ?_) (fun hb12 => ?_)
       · have H := of_true H hb12
         refine W.rg env [6, 7] [] ?_
         refine W.ret ?_
         refine At.rinb ?_
         refine At.rthen ?_
         cases H
         exact At.ret env.ty rfl rfl (fun q hq => by cases hq) (.refl _) hval
       · have H := of_false H hb12
         refine W.skip ?_
         refine At.inb ?_
         refine At.thenC ?_
         refine W.rg env [6, 7] [] ?_
         refine W.ret ?_
         cases H
         exact At.ret env.ty rfl rfl (fun q hq => by cases hq) (.refl _) hval
theorem c_crew_newPlan (p0 : Crew) (p1 : Range → Option Int) (p1_g : Nat) (p1_a p1_b : List AV) (p1_h : ∀ x0 r, p1 x0 = some r → Ctr Tryz.prog p1_g (p1_a ++ ([.agg [.int .i64 (x0.Lo), .int .i64 (x0.Hi)]] ++ p1_b)) (.int .i64 (r))) {r : (Option crew_plan)} (H : crew_newPlan p0 p1 = some r) : Ctr Tryz.prog 34 [.agg [roL 4 enc_Task p0.Tasks, roL 1 enc_ListRange p0.Travel, roL 3 enc_Hand p0.Hands], .clo (.func p1_g) p1_a p1_b] (.po r.isSome [roL 4 enc_Task ((r.getD default).Crew.Tasks), roL 1 enc_ListRange ((r.getD default).Crew.Travel), roL 3 enc_Hand ((r.getD default).Crew.Hands), roL 1 enc_Int ((r.getD default).next)]) := by
 unfold crew_newPlan at H
 refine Ctr.of_body (N := 52) Tryz.func34 (by kernel_rfl) (c := _) rfl Tryz.ntmps34 rfl (fun w0 h0 hval => ?_)
 refine W.rg env [1, 2] [2] ?_
 refine W.seq ?_
 obtain ⟨hc1, H⟩ := of_must H
 refine W.region env [] [] rfl rfl (by first | rfl | kernel_rfl) (.cons hc1 .nil) .nil (At.keep (ts := [1, 2, 5]) (ids := [2, 12, 14]) rfl rfl ?_)
 refine At.convM (.cons (.refl _) (.cons (y := bufL 3 1 enc_Int (List.replicate (((p0.Tasks.length : Nat) : Int)).toNat (0 : Int))) (BSim.seg (Seg.made (f := enc_Int) 0 rfl)) (.cons (.refl _) .nil))) ?_
 refine At.thenC ?_
 refine W.seq ?_
 refine W.rg env [1, 2, 5, 17, 18] [2, 12, 14] ?_
 refine W.block ?_
 refine At.keep (ts := [1, 2, 5, 17, 18]) (ids := [2, 12, 14]) rfl rfl ?_
 obtain ⟨hn2, H⟩ := of_must H
 refine W.rangeGo H (fun i2 (s2 : (List Int)) => [(1, .clo (.func p1_g) p1_a p1_b), (2, .lp 2 0), (5, .lp 14 0), (17, .int .i64 (((p0.Tasks.length : Nat) : Int))), (18, .int .i64 ((i2 : Int)))]) (fun i2 (s2 : (List Int)) => [(2, .cells [roL 4 enc_Task p0.Tasks, roL 1 enc_ListRange p0.Travel, roL 3 enc_Hand p0.Hands]), (12, bufL 3 1 enc_Int s2), (14, .cells [roL 4 enc_Task p0.Tasks, roL 1 enc_ListRange p0.Travel, roL 3 enc_Hand p0.Hands, .buf 12 (s2).length])]) (.cons .q (.cons .q (.cons .q (.cons .qi (.cons .qi .nil))))) (.cons .q (.cons .q (.cons (BSim.cells (.cons .q (.cons .q (.cons .q (.cons .qc .nil))))) .nil))) (fun k2 i2 s2 hle2 H1 H2 K0 hK2 => ?_)
 refine W.rg env [1, 2, 5, 17, 18, 19] [2, 12, 14] ?_
 refine W.seq ?_
 refine W.cond rfl (fun hb3 => ?_) (fun hb3 => ?_)
 · have hi2 : i2 < p0.Tasks.length := by have := of_decide_eq_true hb3; omega
   have H := H1 hi2
   refine W.skip ?_
   refine At.thenC ?_
   refine W.seq ?_
   refine W.block ?_
   refine W.rg env [1, 2, 5, 6, 17, 18] [2, 12, 14] ?_
   refine W.rg env [1, 2, 5, 6, 17, 18, 23, 24] [2, 12, 14] ?_
   refine W.block ?_
   refine At.keep (ts := [1, 2, 5, 6, 17, 18, 23, 24]) (ids := [2, 12, 14]) rfl rfl ?_
   obtain ⟨hn4, H⟩ := of_must H
   refine W.rangeGo H (fun i4 (s4 : (List Int)) => [(1, .clo (.func p1_g) p1_a p1_b), (2, .lp 2 0), (5, .lp 14 0), (6, .int .i64 ((i2 : Int))), (17, .int .i64 (((p0.Tasks.length : Nat) : Int))), (18, .int .i64 ((i2 : Int))), (23, .int .i64 (((p0.Tasks.length : Nat) : Int))), (24, .int .i64 ((i4 : Int)))]) (fun i4 (s4 : (List Int)) => [(2, .cells [roL 4 enc_Task p0.Tasks, roL 1 enc_ListRange p0.Travel, roL 3 enc_Hand p0.Hands]), (12, bufL 3 1 enc_Int s4), (14, .cells [roL 4 enc_Task p0.Tasks, roL 1 enc_ListRange p0.Travel, roL 3 enc_Hand p0.Hands, .buf 12 (s4).length])]) (.cons .q (.cons .q (.cons .q (.cons .qi (.cons .qi (.cons .qi (.cons .qi (.cons .qi .nil)))))))) (.cons .q (.cons .q (.cons (BSim.cells (.cons .q (.cons .q (.cons .q (.cons .qc .nil))))) .nil))) (fun k4 i4 s4 hle4 H1 H2 K0 hK4 => ?_)
   refine W.rg env [1, 2, 5, 6, 17, 18, 23, 24, 25] [2, 12, 14] ?_
   refine W.seq ?_
   refine W.cond rfl (fun hb5 => ?_) (fun hb5 => ?_)
   · have hi4 : i4 < p0.Tasks.length := by have := of_decide_eq_true hb5; omega
     have H := H1 hi4
     refine W.skip ?_
     refine At.thenC ?_
     refine W.seq ?_
     refine W.block ?_
     refine W.rg env [1, 2, 5, 6, 7, 17, 18, 23, 24] [2, 12, 14] ?_
     refine W.seq ?_
     obtain ⟨y6, hy7, H⟩ := of_bindO H
     refine W.region env [] [⟨.int .i64 (y6), [], 0, []⟩] rfl rfl rfl (.cons (fun h => h) (.cons (fun h => h) (.cons (fun h => h) (.cons (fun h => h) (.cons (fun h => h) (.cons (fun h => h) .nil)))))) (.on (fun hW => c_crew_spare p0 (i2 : Int) (i4 : Int) p1 p1_g p1_a p1_b p1_h (of_true hy7 hW)) .nil) (At.keep (ts := [1, 2, 5, 6, 7, 17, 18, 23, 24, 37]) (ids := [2, 12, 14]) rfl rfl ?_)
     refine At.thenC ?_
     refine W.cond rfl (fun hb8 => ?_) (fun hb8 => ?_)
     · have H := of_true H hb8
       obtain ⟨hc9, H⟩ := of_must H
       obtain ⟨hc10, H⟩ := of_must H
       obtain ⟨hc11, H⟩ := of_must H
       obtain ⟨hc12, H⟩ := of_must H
       refine W.region env [] [] rfl rfl (by first | rfl | kernel_rfl) (.cons (⟨by first | rfl | (simp; done) | omega | (simp; omega), hc9⟩) (.cons (⟨by first | rfl | (simp; done) | omega | (simp; omega), (by have := hc9; first | omega | (simp only [List.length_set]; omega) | (simp only [Int.toNat_natCast] at *; omega) | (simp at this ⊢; omega))⟩) (.cons hc10 (.cons hc11 (.cons (⟨by first | rfl | (simp; done) | omega | (simp; omega), hc12⟩) (.cons (⟨by first | rfl | (simp; done) | omega | (simp; omega), (by have := hc12; first | omega | (simp only [List.length_set]; omega) | (simp only [Int.toNat_natCast] at *; omega) | (simp at this ⊢; omega))⟩) .nil)))))) .nil (At.keep (ts := [1, 2, 5, 6, 17, 18, 23, 24]) (ids := [2, 12, 14]) rfl rfl ?_)
       refine At.convM (.cons (.refl _) (.cons (y := bufL 3 1 enc_Int (s4.set i2 ((((s4.getD i2 default) : Int).toNat ||| (((1 : Int) * 2 ^ ((i4 : Int) : Int).toNat) : Int).toNat : Nat) : Int))) (BSim.seg (Seg.set (Seg.refl enc_Int _) ((((s4.getD i2 default) : Int).toNat ||| (((1 : Int) * 2 ^ ((i4 : Int) : Int).toNat) : Int).toNat : Nat) : Int) rfl)) (.cons (.refl _) .nil))) ?_
       refine At.inb ?_
       refine At.thenC ?_
       refine W.region env [] [] rfl rfl rfl (.cons (by unfold inI; have := hn4; (try unfold maxLen at this); omega) .nil) .nil (At.keep (ts := [1, 2, 5, 6, 17, 18, 23, 24]) (ids := [2, 12, 14]) rfl rfl ?_)
       refine At.thenK (At.keep (ts := [1, 2, 5, 6, 17, 18, 23, 24]) (ids := [2, 12, 14]) rfl rfl ?_)
       exact At.conv (.cons .q (.cons .q (.cons .q (.cons .qi (.cons .qi (.cons .qi (.cons .qi (.cons .qi .nil)))))))) (.cons .q (.cons .q (.cons (BSim.cells (.cons .q (.cons .q (.cons .q (.cons .qc .nil))))) .nil))) (hK4 hi4 (s4.set i2 ((((s4.getD i2 default) : Int).toNat ||| (((1 : Int) * 2 ^ ((i4 : Int) : Int).toNat) : Int).toNat : Nat) : Int)) H)
     · have H := of_false H hb8
       refine W.skip ?_
       refine At.inb ?_
       refine At.thenC ?_
       refine W.region env [] [] rfl rfl rfl (.cons (by unfold inI; have := hn4; (try unfold maxLen at this); omega) .nil) .nil (At.keep (ts := [1, 2, 5, 6, 17, 18, 23, 24]) (ids := [2, 12, 14]) rfl rfl ?_)
       refine At.thenK (At.keep (ts := [1, 2, 5, 6, 17, 18, 23, 24]) (ids := [2, 12, 14]) rfl rfl ?_)
       exact At.conv (.cons .q (.cons .q (.cons .q (.cons .qi (.cons .qi (.cons .qi (.cons .qi (.cons .qi .nil)))))))) (.cons .q (.cons .q (.cons (BSim.cells (.cons .q (.cons .q (.cons .q (.cons .qc .nil))))) .nil))) (hK4 hi4 s4 H)
   · have H := H2 (by have := of_decide_eq_false hb5; omega)
     refine W.exit ?_
     refine At.xthen ?_
     refine At.xthen ?_
     refine At.xhere ?_
     refine At.inb ?_
     refine At.thenC ?_
     refine W.region env [] [] rfl rfl rfl (.cons (by unfold inI; have := hn2; (try unfold maxLen at this); omega) .nil) .nil (At.keep (ts := [1, 2, 5, 17, 18]) (ids := [2, 12, 14]) rfl rfl ?_)
     refine At.thenK (At.keep (ts := [1, 2, 5, 17, 18]) (ids := [2, 12, 14]) rfl rfl ?_)
     exact At.conv (.cons .q (.cons .q (.cons .q (.cons .qi (.cons .qi .nil))))) (.cons .q (.cons .q (.cons (BSim.cells (.cons .q (.cons .q (.cons .q (.cons .qc .nil))))) .nil))) (hK2 hi2 s4 H)
 · have H := H2 (by have := of_decide_eq_false hb3; omega)
   refine W.exit ?_
   refine At.xthen ?_
   refine At.xthen ?_
   refine At.xhere ?_
   refine At.thenC ?_
   refine W.rg env [4] [12, 14] ?_
   refine W.ret ?_
   cases H
   exact At.ret env.ty rfl rfl (fun q hq => by cases hq; exact (by first | rfl | (simp; done) | omega | (simp; omega))) (Sim.po_rp rfl (.cons (.refl _) (.cons (.refl _) (.cons (.refl _) (.cons (.refl _) .nil))))) hval
theorem c_crew_plan__followers (p0 : crew_plan) (p1 : Int) : Ctr Tryz.prog 109 [.rp [roL 4 enc_Task p0.Crew.Tasks, roL 1 enc_ListRange p0.Crew.Travel, roL 3 enc_Hand p0.Crew.Hands, roL 1 enc_Int p0.next], .int .i64 (p1)] (.clo (.func 122) [] [.rp [.rp [roL 4 enc_Task p0.Crew.Tasks, roL 1 enc_ListRange p0.Crew.Travel, roL 3 enc_Hand p0.Crew.Hands, roL 1 enc_Int p0.next]], .rp [.int .i64 (p1)]]) := by
 refine Ctr.of_body (N := 6) Tryz.func109 (by kernel_rfl) (c := _) rfl Tryz.ntmps109 rfl (fun w0 h0 hval => ?_)
 refine W.rg env [2, 3] [2, 3] ?_
 refine W.rg env [4] [2, 3] ?_
 refine W.ret ?_
 exact At.ret env.ty rfl rfl (fun q hq => by cases hq) (.refl _) hval
theorem c_crew_plan__followers_1 (c0 : crew_plan) (c1 : Int) {r : List (Int)} (H : crew_plan__followers_1 c0 c1 = some r) : Iter Tryz.prog 122 [.rp [.rp [roL 4 enc_Task c0.Crew.Tasks, roL 1 enc_ListRange c0.Crew.Travel, roL 3 enc_Hand c0.Crew.Hands, roL 1 enc_Int c0.next]], .rp [.int .i64 (c1)]] (r.map (fun (x : Int) => [.int .i64 (x)])) := by
 unfold crew_plan__followers_1 at H
 have hYl := Yl.start r
 skip
 refine Iter.of_body (N := 31) Tryz.func122 (by kernel_rfl) (c := _) rfl Tryz.ntmps122 rfl (fun w0 h0 lp J hJ hval hY => ?_)
 refine W.rg env [0, 1, 2, 9, 10] [] ?_
 refine W.block ?_
 refine At.keep (ts := [0, 1, 2, 9, 10]) (ids := []) rfl rfl ?_
 obtain ⟨hn1, H⟩ := of_must H
 refine W.rangeGoI H hYl (fun i1 (s1 : Unit) => [(0, .fn (.yield lp) [] []), (1, .rp [.rp [roL 4 enc_Task c0.Crew.Tasks, roL 1 enc_ListRange c0.Crew.Travel, roL 3 enc_Hand c0.Crew.Hands, roL 1 enc_Int c0.next]]), (2, .rp [.int .i64 (c1)]), (9, .int .i64 (((c0.next.length : Nat) : Int))), (10, .int .i64 ((i1 : Int)))]) (fun i1 (s1 : Unit) => []) (.cons .q (.cons .q (.cons .q (.cons .qi (.cons .qi .nil))))) .nil (fun k1 i1 s1 g r hle1 hYl H1 H2 K0 hK1 => ?_)
 refine W.rg env [0, 1, 2, 9, 10, 11] [] ?_
 refine W.seq ?_
 refine W.cond rfl (fun hb2 => ?_) (fun hb2 => ?_)
 · have hi1 : i1 < c0.next.length := by have := of_decide_eq_true hb2; omega
   have H := H1 hi1
   refine W.skip ?_
   refine At.thenC ?_
   refine W.seq ?_
   refine W.block ?_
   refine W.rg env [0, 1, 2, 4, 9, 10] [] ?_
   refine W.seq ?_
   obtain ⟨hc3, H⟩ := of_must H
   obtain ⟨hc4, H⟩ := of_must H
   obtain ⟨hc5, H⟩ := of_must H
   refine W.regionYd env hY [] 14 [] [] rfl rfl rfl rfl rfl rfl rfl rfl (fun b => rfl) rfl (fun b => by cases b <;> rfl) (.cons hc3 (.cons hc4 (.cons hc5 .nil))) .nil (.cons (fun h => h) (.cons (fun h => h) .nil)) (fun b => (.cons (fun h => h) (.cons (fun h => h) .nil))) (fun b => .nil) (fun hW => Yl.item (fun (x : Int) => [.int .i64 (x)]) H hYl hW) (fun b g1 hg1 hg2 => ?_)
   refine At.keep (ts := [0, 1, 2, 9, 10, 29]) (ids := []) rfl rfl ?_
   refine At.thenC ?_
   rcases Yl.split hg1 hg2 with ⟨hw1, hw2, rfl⟩ | ⟨hw1, hw2, hw3⟩
   · refine W.cond rfl (fun hb => ?_) (fun hb => ?_)
     · refine W.ret ?_
       refine At.rinb ?_
       refine At.rthen ?_
       refine At.rthen ?_
       refine At.rinb ?_
       exact At.iret rfl (.inl rfl) hval
     · exact absurd hb (by rw [hw1, hw2]; simp)
   · refine W.cond rfl (fun hb => ?_) (fun hb => ?_)
     · exact absurd hb (by intro hb; simp only [Bool.and_eq_true, Bool.not_eq_true'] at hb; have := hw1 (by first | exact hb.1 | (simp only [Bool.and_eq_true]; exact hb.1)); rw [this] at hb; simp at hb)
     · obtain ⟨r, H, hYl⟩ := Yl.next H hYl hw2 hw3
       refine W.skip ?_
       refine At.inb ?_
       refine At.thenC ?_
       refine W.region env [] [] rfl rfl rfl (.cons (by unfold inI; have := hn1; (try unfold maxLen at this); omega) .nil) .nil (At.keep (ts := [0, 1, 2, 9, 10]) (ids := []) rfl rfl ?_)
       refine At.thenK (At.keep (ts := [0, 1, 2, 9, 10]) (ids := []) rfl rfl ?_)
       exact At.conv (.cons .q (.cons .q (.cons .q (.cons .qi (.cons .qi .nil))))) .nil (hK1 hi1 () _ _ hYl H)
 · have H := H2 (by have := of_decide_eq_false hb2; omega)
   refine W.exit ?_
   refine At.xthen ?_
   refine At.xthen ?_
   refine At.xhere ?_
   refine At.iofNormal ?_
   exact At.iret rfl (.inr (Yl.fin (fun (x : Int) => [.int .i64 (x)]) H hYl)) hval
theorem cl_crew_plan__pair_1_l (fuel : Nat) : ∀ (n : Nat) (p0 : Int) (c0 : crew_plan) (c1 : Int) (c2 : (List Int)) (c4 : (List Int)) {r : (Bool × Int × (List Int) × (List Int))} (H : crew_plan__pair_1_l fuel n p0 c0 c1 c2 c4 = some r), CtrO Tryz.prog 108 [.int .i64 (p0), .lp 90000 0, .lp 90001 0, .lp 90002 0, .lp 90004 0, .lp 90005 0] [(90000, .cells [.rp [roL 4 enc_Task c0.Crew.Tasks, roL 1 enc_ListRange c0.Crew.Travel, roL 3 enc_Hand c0.Crew.Hands, roL 1 enc_Int c0.next]]), (90001, .cells [.int .i64 (c1)]), (90002, .cells [.buf 90003 (c2).length]), (90003, bufL 3 1 enc_Int c2), (90004, .cells [.fn (.func 108) [] [.lp 90000 0, .lp 90001 0, .lp 90002 0, .lp 90004 0, .lp 90005 0]]), (90005, .cells [.buf 90006 (c4).length]), (90006, bufL 3 1 enc_Int c4)] (.bool (r.1)) [(90000, .cells [.rp [roL 4 enc_Task c0.Crew.Tasks, roL 1 enc_ListRange c0.Crew.Travel, roL 3 enc_Hand c0.Crew.Hands, roL 1 enc_Int c0.next]]), (90001, .cells [.int .i64 (r.2.1)]), (90002, .cells [.buf 90003 (r.2.2.1).length]), (90003, bufL 3 1 enc_Int r.2.2.1), (90004, .cells [.fn (.func 108) [] [.lp 90000 0, .lp 90001 0, .lp 90002 0, .lp 90004 0, .lp 90005 0]]), (90005, .cells [.buf 90006 (r.2.2.2).length]), (90006, bufL 3 1 enc_Int r.2.2.2)] := by
 intro n; induction n with
 | zero => intro p0 c0 c1 c2 c4 r H; cases H
 | succ n ih =>
   intro p0 c0 c1 c2 c4 r H
   have H : crew_plan__pair_1_l_F fuel (crew_plan__pair_1_l fuel n) p0 c0 c1 c2 c4 = some r := H
   unfold crew_plan__pair_1_l_F at H
   refine CtrL.of_body (N := 43) Tryz.func108 (by kernel_rfl) (c := _) rfl Tryz.ntmps108 rfl rfl (fun w0 h0 ρb hval hdom hent => ?_)
   refine W.rg env [1, 2, 3, 4, 5, 6, 7] [6, 7, 90000, 90001, 90002, 90003, 90004, 90005, 90006] ?_
   refine W.seq ?_
   refine W.sr env [] [⟨.clo (.func 122) [] [.rp [.rp [roL 4 enc_Task c0.Crew.Tasks, roL 1 enc_ListRange c0.Crew.Travel, roL 3 enc_Hand c0.Crew.Hands, roL 1 enc_Int c0.next]], .rp [.int .i64 (p0)]], [], 0, []⟩] [2, 3, 4, 5, 6, 7, 11] [6, 7, 90000, 90001, 90002, 90003, 90004, 90005, 90006] rfl rfl rfl .nil (.free (c_crew_plan__followers c0 p0) .nil) ?_
   refine W.block ?_
   obtain ⟨it1, hit1, H⟩ := of_bindO H
   refine At.keep (ts := [2, 3, 4, 5, 6, 7, 11]) (ids := [6, 7, 90000, 90001, 90002, 90003, 90004, 90005, 90006]) rfl rfl ?_
   refine W.listGo H (fun (x : Int) => [.int .i64 (x)]) (c_crew_plan__followers_1 c0 p0 hit1) rfl (fun _ => ⟨rfl, rfl⟩) rfl rfl rfl (fun (s2 : (List Int) × (List Int) × Int) => [(6, .cells [.int .i64 (p0)]), (7, .cells [.bool (false)]), (90000, .cells [.rp [roL 4 enc_Task c0.Crew.Tasks, roL 1 enc_ListRange c0.Crew.Travel, roL 3 enc_Hand c0.Crew.Hands, roL 1 enc_Int c0.next]]), (90001, .cells [.int .i64 (s2.2.2)]), (90002, .cells [.buf 90003 (s2.1).length]), (90003, bufL 3 1 enc_Int s2.1), (90004, .cells [.fn (.func 108) [] [.lp 90000 0, .lp 90001 0, .lp 90002 0, .lp 90004 0, .lp 90005 0]]), (90005, .cells [.buf 90006 (s2.2.1).length]), (90006, bufL 3 1 enc_Int s2.2.1)]) (.cons .q (.cons .q (.cons .q (.cons .q (.cons (BSim.cells (.cons .qc .nil)) (.cons .q (.cons .q (.cons (BSim.cells (.cons .qc .nil)) (.cons .q .nil))))))))) (fun (x1 : Int) => [(2, .lp 90001 0), (3, .lp 90002 0), (4, .lp 90004 0), (5, .lp 90005 0), (6, .lp 6 0), (7, .lp 7 0), (8, .int .i64 (x1))]) (fun (x1 : Int) (s2 : (List Int) × (List Int) × Int) => [(6, .cells [.int .i64 (p0)]), (7, .cells [.bool (false)]), (90000, .cells [.rp [roL 4 enc_Task c0.Crew.Tasks, roL 1 enc_ListRange c0.Crew.Travel, roL 3 enc_Hand c0.Crew.Hands, roL 1 enc_Int c0.next]]), (90001, .cells [.int .i64 (s2.2.2)]), (90002, .cells [.buf 90003 (s2.1).length]), (90003, bufL 3 1 enc_Int s2.1), (90004, .cells [.fn (.func 108) [] [.lp 90000 0, .lp 90001 0, .lp 90002 0, .lp 90004 0, .lp 90005 0]]), (90005, .cells [.buf 90006 (s2.2.1).length]), (90006, bufL 3 1 enc_Int s2.2.1)]) (fun e (sx : Bool × Int × (List Int) × (List Int)) => e = Exit.ret ∧ some (sx.1, sx.2.1, sx.2.2.1, sx.2.2.2) = some r) (fun _ (sx : Bool × Int × (List Int) × (List Int)) => [(6, .cells [.int .i64 (p0)]), (7, .cells [.bool (sx.1)]), (90000, .cells [.rp [roL 4 enc_Task c0.Crew.Tasks, roL 1 enc_ListRange c0.Crew.Travel, roL 3 enc_Hand c0.Crew.Hands, roL 1 enc_Int c0.next]]), (90001, .cells [.int .i64 (sx.2.1)]), (90002, .cells [.buf 90003 (sx.2.2.1).length]), (90003, bufL 3 1 enc_Int sx.2.2.1), (90004, .cells [.fn (.func 108) [] [.lp 90000 0, .lp 90001 0, .lp 90002 0, .lp 90004 0, .lp 90005 0]]), (90005, .cells [.buf 90006 (sx.2.2.2).length]), (90006, bufL 3 1 enc_Int sx.2.2.2)]) (fun e s h => .inl h.1) hval (fun h1 vs gh st lp x1 s2 K hK => ?_) (fun k2 h1 vs gh st lp x1 s2 H Qr hQ2 hX2 => ?_) (fun s2 H => ?_) (fun e sx h => ?_)
   · refine W.region env [] [] rfl rfl rfl .nil .nil (At.keep (ts := [2, 3, 4, 5, 6, 7, 8]) (ids := [6, 7, 90000, 90001, 90002, 90003, 90004, 90005, 90006]) rfl rfl ?_)
     refine At.thenK (At.keep (ts := [2, 3, 4, 5, 6, 7, 8]) (ids := [6, 7, 90000, 90001, 90002, 90003, 90004, 90005, 90006]) rfl rfl ?_)
     exact hK
   · refine W.block ?_
     refine W.seq ?_
     obtain ⟨hc3, H⟩ := of_must H
     obtain ⟨hc4, H⟩ := of_must H
     refine W.sr env [] [] [2, 3, 4, 5, 6, 7, 8, 17] [6, 7, 90000, 90001, 90002, 90003, 90004, 90005, 90006] rfl rfl rfl (.cons hc3 (.cons hc4 .nil)) .nil ?_
     refine W.cond rfl (fun hb5 => ?_) (fun hb5 => ?_)
     · have H := of_true H hb5
       refine W.exit ?_
       refine At.xthen ?_
       refine At.xhere ?_
       refine At.keep (ts := []) (ids := [6, 7, 90000, 90001, 90002, 90003, 90004, 90005, 90006]) rfl rfl ?_
       exact At.conv .nil (.cons .q (.cons .q (.cons .q (.cons .q (.cons (BSim.cells (.cons .qc .nil)) (.cons .q (.cons .q (.cons (BSim.cells (.cons .qc .nil)) (.cons .q .nil))))))))) (hQ2 (s2.1, s2.2.1, s2.2.2) H)
     · have H := of_false H hb5
       refine W.skip ?_
       refine At.thenC ?_
       obtain ⟨hc6, H⟩ := of_must H
       obtain ⟨hc7, H⟩ := of_must H
       refine W.sr env [] [] [3, 4, 5, 6, 7, 8] [6, 7, 90000, 90001, 90002, 90003, 90004, 90005, 90006] rfl rfl (by first | rfl | kernel_rfl) (.cons hc6 (.cons hc7 .nil)) .nil ?_
       refine W.seq ?_
       obtain ⟨hc8, H⟩ := of_must H
       obtain ⟨hc9, H⟩ := of_must H
       obtain ⟨y10, hy11, H⟩ := of_bindO H
       refine W.region env [] [⟨.bool (y10.1), [(90000, .cells [.rp [roL 4 enc_Task c0.Crew.Tasks, roL 1 enc_ListRange c0.Crew.Travel, roL 3 enc_Hand c0.Crew.Hands, roL 1 enc_Int c0.next]]), (90001, .cells [.int .i64 (y10.2.1)]), (90002, .cells [.buf 90003 (y10.2.2.1).length]), (90003, bufL 3 1 enc_Int y10.2.2.1), (90004, .cells [.fn (.func 108) [] [.lp 90000 0, .lp 90001 0, .lp 90002 0, .lp 90004 0, .lp 90005 0]]), (90005, .cells [.buf 90006 (y10.2.2.2).length]), (90006, bufL 3 1 enc_Int y10.2.2.2)], 0, [90000, 90001, 90002, 90003, 90004, 90005, 90006]⟩] rfl rfl (by kernel_rfl) (.cons (⟨by first | rfl | (simp; done) | omega | (simp; omega), hc8⟩) (.cons (⟨by first | rfl | (simp; done) | omega | (simp; omega), (by have := hc8; first | omega | (simp only [List.length_set]; omega) | (simp only [Int.toNat_natCast] at *; omega) | (simp at this ⊢; omega))⟩) (.cons (fun hW => ⟨by first | rfl | (simp; done) | omega | (simp; omega), hc9 hW⟩) (.cons (fun h => h) (.cons (fun h => h) (.cons (fun hW => (⟨by first | rfl | (simp; done) | omega | (simp; omega), (by have := hc9 hW; first | omega | (simp only [List.length_set]; omega) | (simp only [Int.toNat_natCast] at *; omega) | (simp at this ⊢; omega))⟩)) (.cons (fun h => h) (.cons (fun hW => by obtain rfl := lend_off hy11 hW; first | exact .refl _ | exact .q) (.cons (fun hW => by obtain rfl := lend_off hy11 hW; first | exact .refl _ | exact .q) (.cons (fun hW => by obtain rfl := lend_off hy11 hW; first | exact .refl _ | exact .q) (.cons (fun hW => by obtain rfl := lend_off hy11 hW; first | exact .refl _ | exact .q) (.cons (fun hW => by obtain rfl := lend_off hy11 hW; first | exact .refl _ | exact .q) (.cons (fun hW => by obtain rfl := lend_off hy11 hW; first | exact .refl _ | exact .q) (.cons (fun hW => by obtain rfl := lend_off hy11 hW; first | exact .refl _ | exact .q) (.cons (fun h => h) (.cons (fun h => h) (.cons (fun h => by rw [h]; rfl) .nil))))))))))))))))) (.on (fun hW => (CtrO.sim (CtrO.ren (ih (s2.1.getD (x1).toNat default) c0 (((s2.2.2 : Int).toNat ||| (((1 : Int) * 2 ^ (x1 : Int).toNat) : Int).toNat : Nat) : Int) s2.1 s2.2.1 (of_true hy11 hW)) [(90000, 90000), (90001, 90001), (90002, 90002), (90003, 90003), (90004, 90004), (90005, 90005), (90006, 90006)]) (.cons (.refl _) (.cons (.refl _) (.cons (.refl _) (.cons (.refl _) (.cons (.refl _) (.cons (.refl _) .nil)))))) (.cons (.refl _) (.cons (.refl _) (.cons (BSim.cells (.cons .qc .nil)) (.cons (.refl _) (.cons (.refl _) (.cons (BSim.cells (.cons .qc .nil)) (.cons (.refl _) .nil))))))))) .nil) (At.keep (ts := [3, 5, 6, 7, 8, 34]) (ids := [6, 7, 90000, 90001, 90002, 90003, 90004, 90005, 90006]) rfl rfl ?_)
       refine At.thenC ?_
       refine W.cond rfl (fun hb12 => ?_) (fun hb12 => ?_)
       · have H := of_true H hb12
         refine W.seq ?_
         obtain ⟨hc13, H⟩ := of_must H
         obtain ⟨hc14, H⟩ := of_must H
         refine W.region env [] [] rfl rfl (by first | rfl | kernel_rfl) (.cons (⟨by first | rfl | (simp; done) | omega | (simp; omega), hc13⟩) (.cons (⟨by first | rfl | (simp; done) | omega | (simp; omega), (by have := hc13; first | omega | (simp only [List.length_set]; omega) | (simp only [Int.toNat_natCast] at *; omega) | (simp at this ⊢; omega))⟩) (.cons (⟨by first | rfl | (simp; done) | omega | (simp; omega), hc14⟩) (.cons (⟨by first | rfl | (simp; done) | omega | (simp; omega), (by have := hc14; first | omega | (simp only [List.length_set]; omega) | (simp only [Int.toNat_natCast] at *; omega) | (simp at this ⊢; omega))⟩) .nil)))) .nil (At.keep (ts := [7]) (ids := [6, 7, 90000, 90001, 90002, 90003, 90004, 90005, 90006]) rfl rfl ?_)
         refine At.convM (.cons (.refl _) (.cons (.refl _) (.cons (.refl _) (.cons (.refl _) (.cons (.refl _) (.cons (y := bufL 3 1 enc_Int (y10.2.2.1.set (x1).toNat p0)) (BSim.seg (Seg.set (Seg.refl enc_Int _) p0 rfl)) (.cons (.refl _) (.cons (.refl _) (.cons (y := bufL 3 1 enc_Int (y10.2.2.2.set (p0).toNat x1)) (BSim.seg (Seg.set (Seg.refl enc_Int _) x1 rfl)) .nil))))))))) ?_
         refine At.thenC ?_
         refine W.rg env [7] [6, 7, 90000, 90001, 90002, 90003, 90004, 90005, 90006] ?_
         refine W.ret ?_
         refine At.rinb ?_
         refine At.keep (ts := []) (ids := [6, 7, 90000, 90001, 90002, 90003, 90004, 90005, 90006]) rfl rfl ?_
         exact At.conv .nil (.cons .q (.cons .q (.cons .q (.cons .q (.cons (BSim.cells (.cons .qc .nil)) (.cons .q (.cons .q (.cons (BSim.cells (.cons .qc .nil)) (.cons .q .nil))))))))) (hX2 .ret (true, y10.2.1, (y10.2.2.1.set (x1).toNat p0), (y10.2.2.2.set (p0).toNat x1)) ⟨rfl, H⟩)
       · have H := of_false H hb12
         refine W.skip ?_
         refine At.inb ?_
         refine At.keep (ts := []) (ids := [6, 7, 90000, 90001, 90002, 90003, 90004, 90005, 90006]) rfl rfl ?_
         exact At.conv .nil (.cons .q (.cons .q (.cons .q (.cons .q (.cons (BSim.cells (.cons .qc .nil)) (.cons .q (.cons .q (.cons (BSim.cells (.cons .qc .nil)) (.cons .q .nil))))))))) (hQ2 (y10.2.2.1, y10.2.2.2, y10.2.1) H)
   · refine At.inb ?_
     refine At.thenC ?_
     refine W.rg env [7] [7, 90000, 90001, 90002, 90003, 90004, 90005, 90006] ?_
     refine W.ret ?_
     cases H
     exact At.retL env.ty [90000, 90001, 90002, 90003, 90004, 90005, 90006] rfl rfl rfl rfl (.cons (.refl _) (.cons (.refl _) (.cons (BSim.cells (.cons .qc .nil)) (.cons (.refl _) (.cons (.refl _) (.cons (BSim.cells (.cons .qc .nil)) (.cons (.refl _) .nil))))))) (.refl _) hval hdom hent rfl rfl
   · obtain ⟨rfl, H⟩ := h
     refine At.rinb ?_
     refine At.rthen ?_
     cases H
     exact At.retL env.ty [90000, 90001, 90002, 90003, 90004, 90005, 90006] rfl rfl rfl rfl (.cons (.refl _) (.cons (.refl _) (.cons (BSim.cells (.cons .qc .nil)) (.cons (.refl _) (.cons (.refl _) (.cons (BSim.cells (.cons .qc .nil)) (.cons (.refl _) .nil))))))) (.refl _) hval hdom hent rfl rfl
theorem c_crew_plan__pair (fuel : Nat) (p0 : crew_plan) {r : ((List Int) × (List Int))} (H : crew_plan__pair fuel p0 = some r) : Ctr Tryz.prog 102 [.rp [roL 4 enc_Task p0.Crew.Tasks, roL 1 enc_ListRange p0.Crew.Travel, roL 3 enc_Hand p0.Crew.Hands, roL 1 enc_Int p0.next]] (.tup [roL 1 enc_Int r.1, roL 1 enc_Int r.2]) := by
 unfold crew_plan__pair at H
 refine Ctr.of_body (N := 47) Tryz.func102 (by kernel_rfl) (c := _) rfl Tryz.ntmps102 rfl (fun w0 h0 hval => ?_)
 refine W.rg env [1, 2, 3] [1, 2, 3] ?_
 refine W.seq ?_
 obtain ⟨hc1, H⟩ := of_must H
 obtain ⟨hc2, H⟩ := of_must H
 refine W.region env [] [] rfl rfl (by first | rfl | kernel_rfl) (.cons hc1 (.cons hc2 .nil)) .nil (At.keep (ts := [1, 2, 3]) (ids := [1, 2, 3, 13, 19]) rfl rfl ?_)
 refine At.convM (.cons (.refl _) (.cons (.refl _) (.cons (.refl _) (.cons (y := bufL 3 1 enc_Int (List.replicate (((p0.next.length : Nat) : Int)).toNat (0 : Int))) (BSim.seg (Seg.made (f := enc_Int) 0 rfl)) (.cons (y := bufL 3 1 enc_Int (List.replicate (((p0.next.length : Nat) : Int)).toNat (0 : Int))) (BSim.seg (Seg.made (f := enc_Int) 0 rfl)) .nil))))) ?_
 refine At.thenC ?_
 refine W.seq ?_
 refine W.sr env [] [] [1, 2, 3, 21, 22] [1, 2, 3, 13, 19] rfl rfl rfl (.cons (by first | rfl | (simp; done) | omega | (simp; omega)) .nil) .nil ?_
 refine W.block ?_
 refine At.keep (ts := [1, 2, 3, 21, 22]) (ids := [1, 2, 3, 13, 19]) rfl rfl ?_
 obtain ⟨hn3, H⟩ := of_must H
 refine W.rangeGo H (fun i3 (s3 : (List Int) × (List Int)) => [(1, .lp 1 0), (2, .lp 2 0), (3, .lp 3 0), (21, .int .i64 ((((List.replicate (((p0.next.length : Nat) : Int)).toNat (0 : Int)).length : Nat) : Int))), (22, .int .i64 ((i3 : Int)))]) (fun i3 (s3 : (List Int) × (List Int)) => [(1, .cells [.rp [roL 4 enc_Task p0.Crew.Tasks, roL 1 enc_ListRange p0.Crew.Travel, roL 3 enc_Hand p0.Crew.Hands, roL 1 enc_Int p0.next]]), (2, .cells [.buf 13 (s3.1).length]), (3, .cells [.buf 19 (s3.2).length]), (13, bufL 3 1 enc_Int s3.1), (19, bufL 3 1 enc_Int s3.2)]) (.cons .q (.cons .q (.cons .q (.cons .qi (.cons .qi .nil))))) (.cons .q (.cons (BSim.cells (.cons .qc .nil)) (.cons (BSim.cells (.cons .qc .nil)) (.cons .q (.cons .q .nil))))) (fun k3 i3 s3 hle3 H1 H2 K0 hK3 => ?_)
 refine W.rg env [1, 2, 3, 21, 22, 23] [1, 2, 3, 13, 19] ?_
 refine W.seq ?_
 refine W.cond rfl (fun hb4 => ?_) (fun hb4 => ?_)
 · have hi3 : i3 < (List.replicate (((p0.next.length : Nat) : Int)).toNat (0 : Int)).length := by have := of_decide_eq_true hb4; omega
   have H := H1 hi3
   refine W.skip ?_
   refine At.thenC ?_
   refine W.seq ?_
   refine W.block ?_
   refine W.rg env [1, 2, 3, 4, 21, 22] [1, 2, 3, 13, 19] ?_
   obtain ⟨hc5, H⟩ := of_must H
   obtain ⟨hc6, H⟩ := of_must H
   refine W.region env [] [] rfl rfl (by first | rfl | kernel_rfl) (.cons (⟨by first | rfl | (simp; done) | omega | (simp; omega), hc5⟩) (.cons (⟨by first | rfl | (simp; done) | omega | (simp; omega), (by have := hc5; first | omega | (simp only [List.length_set]; omega) | (simp only [Int.toNat_natCast] at *; omega) | (simp at this ⊢; omega))⟩) (.cons (⟨by first | rfl | (simp; done) | omega | (simp; omega), hc6⟩) (.cons (⟨by first | rfl | (simp; done) | omega | (simp; omega), (by have := hc6; first | omega | (simp only [List.length_set]; omega) | (simp only [Int.toNat_natCast] at *; omega) | (simp at this ⊢; omega))⟩) .nil)))) .nil (At.keep (ts := [1, 2, 3, 21, 22]) (ids := [1, 2, 3, 13, 19]) rfl rfl ?_)
   refine At.convM (.cons (.refl _) (.cons (.refl _) (.cons (.refl _) (.cons (y := bufL 3 1 enc_Int (s3.1.set i3 (-1))) (BSim.seg (Seg.set (Seg.refl enc_Int _) (-1) rfl)) (.cons (y := bufL 3 1 enc_Int (s3.2.set i3 (-1))) (BSim.seg (Seg.set (Seg.refl enc_Int _) (-1) rfl)) .nil))))) ?_
   refine At.inb ?_
   refine At.thenC ?_
   refine W.region env [] [] rfl rfl rfl (.cons (by unfold inI; have := hn3; (try unfold maxLen at this); omega) .nil) .nil (At.keep (ts := [1, 2, 3, 21, 22]) (ids := [1, 2, 3, 13, 19]) rfl rfl ?_)
   refine At.thenK (At.keep (ts := [1, 2, 3, 21, 22]) (ids := [1, 2, 3, 13, 19]) rfl rfl ?_)
   exact At.conv (.cons .q (.cons .q (.cons .q (.cons .qi (.cons .qi .nil))))) (.cons .q (.cons (BSim.cells (.cons .qc .nil)) (.cons (BSim.cells (.cons .qc .nil)) (.cons .q (.cons .q .nil))))) (hK3 hi3 ((s3.1.set i3 (-1)), (s3.2.set i3 (-1))) H)
 · have H := H2 (by have := of_decide_eq_false hb4; omega)
   refine W.exit ?_
   refine At.xthen ?_
   refine At.xthen ?_
   refine At.xhere ?_
   refine At.thenC ?_
   refine W.seq ?_
   refine W.rg env [1, 2, 3, 36, 37] [1, 2, 3, 13, 19] ?_
   refine W.block ?_
   refine At.keep (ts := [1, 2, 3, 36, 37]) (ids := [1, 2, 3, 13, 19]) rfl rfl ?_
   obtain ⟨hn7, H⟩ := of_must H
   refine W.rangeGo H (fun i7 (s7 : (List Int) × (List Int)) => [(1, .lp 1 0), (2, .lp 2 0), (3, .lp 3 0), (36, .int .i64 (((p0.next.length : Nat) : Int))), (37, .int .i64 ((i7 : Int)))]) (fun i7 (s7 : (List Int) × (List Int)) => [(1, .cells [.rp [roL 4 enc_Task p0.Crew.Tasks, roL 1 enc_ListRange p0.Crew.Travel, roL 3 enc_Hand p0.Crew.Hands, roL 1 enc_Int p0.next]]), (2, .cells [.buf 13 (s7.1).length]), (3, .cells [.buf 19 (s7.2).length]), (13, bufL 3 1 enc_Int s7.1), (19, bufL 3 1 enc_Int s7.2)]) (.cons .q (.cons .q (.cons .q (.cons .qi (.cons .qi .nil))))) (.cons .q (.cons (BSim.cells (.cons .qc .nil)) (.cons (BSim.cells (.cons .qc .nil)) (.cons .q (.cons .q .nil))))) (fun k7 i7 s7 hle7 H1 H2 K0 hK7 => ?_)
   refine W.rg env [1, 2, 3, 36, 37, 38] [1, 2, 3, 13, 19] ?_
   refine W.seq ?_
   refine W.cond rfl (fun hb8 => ?_) (fun hb8 => ?_)
   · have hi7 : i7 < p0.next.length := by have := of_decide_eq_true hb8; omega
     have H := H1 hi7
     refine W.skip ?_
     refine At.thenC ?_
     refine W.seq ?_
     refine W.block ?_
     refine W.rg env [1, 2, 3, 5, 36, 37] [1, 2, 3, 13, 19] ?_
     refine W.rg env [1, 2, 3, 5, 6, 36, 37] [1, 2, 3, 6, 13, 19] ?_
     refine W.rg env [1, 2, 3, 5, 6, 7, 36, 37] [1, 2, 3, 6, 7, 13, 19] ?_
     refine W.rg env [1, 2, 3, 5, 7, 36, 37] [1, 2, 3, 6, 7, 13, 19] ?_
     obtain ⟨y9, hy10, H⟩ := of_bindO H
     refine W.region env [] [⟨.bool (y9.1), [(1, .cells [.rp [roL 4 enc_Task p0.Crew.Tasks, roL 1 enc_ListRange p0.Crew.Travel, roL 3 enc_Hand p0.Crew.Hands, roL 1 enc_Int p0.next]]), (6, .cells [.int .i64 (y9.2.1)]), (2, .cells [.buf 13 (y9.2.2.1).length]), (13, bufL 3 1 enc_Int y9.2.2.1), (7, .cells [.fn (.func 108) [] [.lp 1 0, .lp 6 0, .lp 2 0, .lp 7 0, .lp 3 0]]), (3, .cells [.buf 19 (y9.2.2.2).length]), (19, bufL 3 1 enc_Int y9.2.2.2)], 0, [1, 6, 2, 13, 7, 3, 19]⟩] rfl rfl (by kernel_rfl) .nil (.free (CtrO.sim (CtrO.ren (cl_crew_plan__pair_1_l fuel fuel (i7 : Int) p0 0 s7.1 s7.2 hy10) [(90000, 1), (90001, 6), (90002, 2), (90003, 13), (90004, 7), (90005, 3), (90006, 19)]) (.cons (.refl _) (.cons (.refl _) (.cons (.refl _) (.cons (.refl _) (.cons (.refl _) (.cons (.refl _) .nil)))))) (.cons (.refl _) (.cons (.refl _) (.cons (BSim.cells (.cons .qc .nil)) (.cons (.refl _) (.cons (.refl _) (.cons (BSim.cells (.cons .qc .nil)) (.cons (.refl _) .nil)))))))) .nil) (At.keep (ts := [1, 2, 3, 36, 37]) (ids := [1, 2, 3, 13, 19]) rfl rfl ?_)
     refine At.inb ?_
     refine At.thenC ?_
     refine W.region env [] [] rfl rfl rfl (.cons (by unfold inI; have := hn7; (try unfold maxLen at this); omega) .nil) .nil (At.keep (ts := [1, 2, 3, 36, 37]) (ids := [1, 2, 3, 13, 19]) rfl rfl ?_)
     refine At.thenK (At.keep (ts := [1, 2, 3, 36, 37]) (ids := [1, 2, 3, 13, 19]) rfl rfl ?_)
     exact At.conv (.cons .q (.cons .q (.cons .q (.cons .qi (.cons .qi .nil))))) (.cons .q (.cons (BSim.cells (.cons .qc .nil)) (.cons (BSim.cells (.cons .qc .nil)) (.cons .q (.cons .q .nil))))) (hK7 hi7 (y9.2.2.1, y9.2.2.2) H)
   · have H := H2 (by have := of_decide_eq_false hb8; omega)
     refine W.exit ?_
     refine At.xthen ?_
     refine At.xthen ?_
     refine At.xhere ?_
     refine At.thenC ?_
     refine W.sr env [] [] [2, 3] [2, 3, 13, 19] rfl rfl (by first | rfl | kernel_rfl) .nil .nil ?_
     refine W.ret ?_
     cases H
     exact At.ret env.ty rfl rfl (fun q hq => by cases hq; exact ⟨by first | rfl | (simp; done) | omega | (simp; omega), (by first | rfl | (simp; done) | omega | (simp; omega))⟩) (.refl _) hval
theorem c_crew_plan__count (fuel : Nat) (p0 : crew_plan) {r : Int} (H : crew_plan__count fuel p0 = some r) : Ctr Tryz.prog 87 [.rp [roL 4 enc_Task p0.Crew.Tasks, roL 1 enc_ListRange p0.Crew.Travel, roL 3 enc_Hand p0.Crew.Hands, roL 1 enc_Int p0.next]] (.int .i64 (r)) := by
 unfold crew_plan__count at H
 refine Ctr.of_body (N := 25) Tryz.func87 (by kernel_rfl) (c := _) rfl Tryz.ntmps87 rfl (fun w0 h0 hval => ?_)
 refine W.rg env [0] [] ?_
 refine W.seq ?_
 obtain ⟨y1, hy2, H⟩ := of_bindO H
 refine W.region env [] [⟨.tup [roL 1 enc_Int y1.1, roL 1 enc_Int y1.2], [], 0, []⟩] rfl rfl rfl .nil (.free (c_crew_plan__pair fuel p0 hy2) .nil) (At.keep (ts := [3]) (ids := []) rfl rfl ?_)
 refine At.thenC ?_
 refine W.rg env [3, 5] [] ?_
 refine W.seq ?_
 refine W.rg env [5, 13, 14, 15] [] ?_
 refine W.block ?_
 refine At.keep (ts := [5, 13, 14, 15]) (ids := []) rfl rfl ?_
 refine W.len (t := 13) rfl (fun (hn3 : y1.1.length ≤ maxLen) => ?_)
 refine W.rangeGo H (fun i3 (s3 : Int) => [(5, .int .i64 (s3)), (13, roL 1 enc_Int y1.1), (14, .int .i64 (((y1.1.length : Nat) : Int))), (15, .int .i64 ((i3 : Int)))]) (fun i3 (s3 : Int) => []) (.cons .qi (.cons .q (.cons .qi (.cons .qi .nil)))) .nil (fun k3 i3 s3 hle3 H1 H2 K0 hK3 => ?_)
 refine W.rg env [5, 13, 14, 15, 16] [] ?_
 refine W.seq ?_
 refine W.cond rfl (fun hb4 => ?_) (fun hb4 => ?_)
 · have hi3 : i3 < y1.1.length := by have := of_decide_eq_true hb4; omega
   have H := H1 hi3
   refine W.skip ?_
   refine At.thenC ?_
   refine W.seq ?_
   refine W.block ?_
   refine W.sr env [] [] [5, 7, 13, 14, 15] [] rfl rfl rfl (.cons (⟨by omega, by omega⟩ : 0 ≤ (i3 : Int) ∧ (i3 : Int) < ((y1.1.length : Nat) : Int)) .nil) .nil ?_
   refine W.rg env [5, 13, 14, 15, 20] [] ?_
   refine W.cond rfl (fun hb5 => ?_) (fun hb5 => ?_)
   · have H := of_true H hb5
     obtain ⟨hc6, H⟩ := of_must H
     refine W.region env [] [] rfl rfl rfl (.cons hc6 .nil) .nil (At.keep (ts := [5, 13, 14, 15]) (ids := []) rfl rfl ?_)
     refine At.inb ?_
     refine At.thenC ?_
     refine W.region env [] [] rfl rfl rfl (.cons (by unfold inI; have := hn3; (try unfold maxLen at this); omega) .nil) .nil (At.keep (ts := [5, 13, 14, 15]) (ids := []) rfl rfl ?_)
     refine At.thenK (At.keep (ts := [5, 13, 14, 15]) (ids := []) rfl rfl ?_)
     exact At.conv (.cons .qi (.cons .q (.cons .qi (.cons .qi .nil)))) .nil (hK3 hi3 (s3 + 1) H)
   · have H := of_false H hb5
     refine W.skip ?_
     refine At.inb ?_
     refine At.thenC ?_
     refine W.region env [] [] rfl rfl rfl (.cons (by unfold inI; have := hn3; (try unfold maxLen at this); omega) .nil) .nil (At.keep (ts := [5, 13, 14, 15]) (ids := []) rfl rfl ?_)
     refine At.thenK (At.keep (ts := [5, 13, 14, 15]) (ids := []) rfl rfl ?_)
     exact At.conv (.cons .qi (.cons .q (.cons .qi (.cons .qi .nil)))) .nil (hK3 hi3 s3 H)
 · have H := H2 (by have := of_decide_eq_false hb4; omega)
   refine W.exit ?_
   refine At.xthen ?_
   refine At.xthen ?_
   refine At.xhere ?_
   refine At.thenC ?_
   refine W.rg env [2] [] ?_
   refine W.ret ?_
   cases H
   exact At.ret env.ty rfl rfl (fun q hq => by cases hq) (.refl _) hval
theorem c_crew_Count (fuel : Nat) (p0 : Crew) {r : (Int × Int)} (H : crew_Count fuel p0 = some r) : Ctr Tryz.prog 52 [.agg [roL 4 enc_Task p0.Tasks, roL 1 enc_ListRange p0.Travel, roL 3 enc_Hand p0.Hands]] (.tup [.int .i64 (r.1), .int .i64 (r.2)]) := by
 unfold crew_Count at H
 refine Ctr.of_body (N := 13) Tryz.func52 (by kernel_rfl) (c := _) rfl Tryz.ntmps52 rfl (fun w0 h0 hval => ?_)
 refine W.rg env [1] [1] ?_
 refine W.seq ?_
 refine W.seq ?_
 obtain ⟨y1, hy2, H⟩ := of_bindO H
 refine W.region env [] [⟨.int .i64 (y1), [], 0, []⟩] rfl rfl rfl .nil (.free (c_crew_Check p0 hy2) .nil) (At.keep (ts := [1, 4]) (ids := [1]) rfl rfl ?_)
 refine At.thenC ?_
 refine W.rg env [1, 4, 8] [1] ?_
 refine W.cond rfl (fun hb3 => ?_) (fun hb3 => ?_)
 · have H := of_true H hb3
   refine W.rg env [2, 3] [] ?_
   refine W.ret ?_
   refine At.rthen ?_
   cases H
   exact At.ret env.ty rfl rfl (fun q hq => by cases hq) (.refl _) hval
 · have H := of_false H hb3
   refine W.skip ?_
   refine At.thenC ?_
   refine W.seq ?_
   obtain ⟨y4, hy5, H⟩ := of_bindO H
   obtain ⟨hc6, H⟩ := of_must H
   obtain ⟨y7, hy8, H⟩ := of_bindO H
   refine W.region env [] [⟨.po y4.isSome [roL 4 enc_Task ((y4.getD default).Crew.Tasks), roL 1 enc_ListRange ((y4.getD default).Crew.Travel), roL 3 enc_Hand ((y4.getD default).Crew.Hands), roL 1 enc_Int ((y4.getD default).next)], [], 0, []⟩, ⟨.int .i64 (y7), [], 0, []⟩] rfl rfl rfl .nil (.free (c_crew_newPlan p0 (fun x0 => some (crew_most x0)) 35 [] [] (fun x0 r h => by cases h; exact c_crew_most x0) hy5) (.free (Ctr.sim (.cons (Sim.rp_po hc6) .nil) (c_crew_plan__count fuel (y4.getD default) hy8)) .nil)) (At.keep (ts := [2, 3]) (ids := []) rfl rfl ?_)
   refine At.thenC ?_
   refine W.ret ?_
   cases H
   exact At.ret env.ty rfl rfl (fun q hq => by cases hq) (.refl _) hval
theorem c_crew_Bounds (fuel : Nat) (p0 : Crew) {r : (Range × Int)} (H : crew_Bounds fuel p0 = some r) : Ctr Tryz.prog 65 [.agg [roL 4 enc_Task p0.Tasks, roL 1 enc_ListRange p0.Travel, roL 3 enc_Hand p0.Hands]] (.tup [.agg [.int .i64 (r.1.Lo), .int .i64 (r.1.Hi)], .int .i64 (r.2)]) := by
 unfold crew_Bounds at H
 refine Ctr.of_body (N := 18) Tryz.func65 (by kernel_rfl) (c := _) rfl Tryz.ntmps65 rfl (fun w0 h0 hval => ?_)
 refine W.rg env [1, 2] [1, 2] ?_
 refine W.seq ?_
 refine W.seq ?_
 obtain ⟨y1, hy2, H⟩ := of_bindO H
 refine W.region env [] [⟨.int .i64 (y1), [], 0, []⟩] rfl rfl rfl .nil (.free (c_crew_Check p0 hy2) .nil) (At.keep (ts := [1, 2, 4]) (ids := [1, 2]) rfl rfl ?_)
 refine At.thenC ?_
 refine W.rg env [1, 2, 4, 8] [1, 2] ?_
 refine W.cond rfl (fun hb3 => ?_) (fun hb3 => ?_)
 · have H := of_true H hb3
   refine W.rg env [2, 3] [2] ?_
   refine W.ret ?_
   refine At.rthen ?_
   cases H
   exact At.ret env.ty rfl rfl (fun q hq => by cases hq) (.refl _) hval
 · have H := of_false H hb3
   refine W.skip ?_
   refine At.thenC ?_
   refine W.seq ?_
   obtain ⟨y4, hy5, H⟩ := of_bindO H
   obtain ⟨hc6, H⟩ := of_must H
   obtain ⟨y7, hy8, H⟩ := of_bindO H
   obtain ⟨y9, hy10, H⟩ := of_bindO H
   obtain ⟨hc11, H⟩ := of_must H
   obtain ⟨y12, hy13, H⟩ := of_bindO H
   refine W.region env [] [⟨.po y4.isSome [roL 4 enc_Task ((y4.getD default).Crew.Tasks), roL 1 enc_ListRange ((y4.getD default).Crew.Travel), roL 3 enc_Hand ((y4.getD default).Crew.Hands), roL 1 enc_Int ((y4.getD default).next)], [], 0, []⟩, ⟨.int .i64 (y7), [], 0, []⟩, ⟨.po y9.isSome [roL 4 enc_Task ((y9.getD default).Crew.Tasks), roL 1 enc_ListRange ((y9.getD default).Crew.Travel), roL 3 enc_Hand ((y9.getD default).Crew.Hands), roL 1 enc_Int ((y9.getD default).next)], [], 0, []⟩, ⟨.int .i64 (y12), [], 0, []⟩] rfl rfl (by kernel_rfl) .nil (.free (c_crew_newPlan p0 (fun x0 => some (crew_least x0)) 93 [] [] (fun x0 r h => by cases h; exact c_crew_least x0) hy5) (.free (Ctr.sim (.cons (Sim.rp_po hc6) .nil) (c_crew_plan__count fuel (y4.getD default) hy8)) (.free (c_crew_newPlan p0 (fun x0 => some (crew_most x0)) 35 [] [] (fun x0 r h => by cases h; exact c_crew_most x0) hy10) (.free (Ctr.sim (.cons (Sim.rp_po hc11) .nil) (c_crew_plan__count fuel (y9.getD default) hy13)) .nil)))) (At.keep (ts := [2, 3]) (ids := [2]) rfl rfl ?_)
   refine At.thenC ?_
   refine W.ret ?_
   cases H
   exact At.ret env.ty rfl rfl (fun q hq => by cases hq) (.refl _) hval
theorem c_crew_plan__isRound (p0 : crew_plan) (p1 : (List Int)) {r : Bool} (H : crew_plan__isRound p0 p1 = some r) : Ctr Tryz.prog 36 [.rp [roL 4 enc_Task p0.Crew.Tasks, roL 1 enc_ListRange p0.Crew.Travel, roL 3 enc_Hand p0.Crew.Hands, roL 1 enc_Int p0.next], roL 1 enc_Int p1] (.bool (r)) := by
 unfold crew_plan__isRound at H
 refine Ctr.of_body (N := 48) Tryz.func36 (by kernel_rfl) (c := _) rfl Tryz.ntmps36 rfl (fun w0 h0 hval => ?_)
 refine W.rg env [0, 1] [] ?_
 refine W.seq ?_
 refine W.rg env [0, 1, 7, 8, 9] [] ?_
 refine W.block ?_
 refine At.keep (ts := [0, 1, 7, 8, 9]) (ids := []) rfl rfl ?_
 refine W.len (t := 7) rfl (fun (hn1 : p1.length ≤ maxLen) => ?_)
 refine W.rangeGo H (fun i1 (s1 : Unit) => [(0, .rp [roL 4 enc_Task p0.Crew.Tasks, roL 1 enc_ListRange p0.Crew.Travel, roL 3 enc_Hand p0.Crew.Hands, roL 1 enc_Int p0.next]), (1, roL 1 enc_Int p1), (7, roL 1 enc_Int p1), (8, .int .i64 (((p1.length : Nat) : Int))), (9, .int .i64 ((i1 : Int)))]) (fun i1 (s1 : Unit) => []) (.cons .q (.cons .q (.cons .q (.cons .qi (.cons .qi .nil))))) .nil (fun k1 i1 s1 hle1 H1 H2 K0 hK1 => ?_)
 refine W.rg env [0, 1, 7, 8, 9, 10] [] ?_
 refine W.seq ?_
 refine W.cond rfl (fun hb2 => ?_) (fun hb2 => ?_)
 · have hi1 : i1 < p1.length := by have := of_decide_eq_true hb2; omega
   have H := H1 hi1
   refine W.skip ?_
   refine At.thenC ?_
   refine W.seq ?_
   refine W.block ?_
   refine W.sr env [] [] [0, 1, 5, 6, 7, 8, 9] [] rfl rfl rfl (.cons (⟨by omega, by omega⟩ : 0 ≤ (i1 : Int) ∧ (i1 : Int) < ((p1.length : Nat) : Int)) .nil) .nil ?_
   obtain ⟨hc3, H⟩ := of_must H
   obtain ⟨hc4, H⟩ := of_must H
   obtain ⟨hc5, H⟩ := of_must H
   obtain ⟨hc6, H⟩ := of_must H
   obtain ⟨hc7, H⟩ := of_must H
   obtain ⟨hc8, H⟩ := of_must H
   refine W.sr env [] [⟨.bool ((crew_in (p1.getD i1 default) 0 (((p0.next.length : Nat) : Int) - 1))), [], 0, []⟩] [0, 1, 7, 8, 9, 43] [] rfl rfl (by kernel_rfl) (.cons hc3 (.cons (fun h => h) (.cons (fun h => h) (.cons (fun h => h) (.cons (fun h => h) (.cons (fun h => h) (.cons hc4 (.cons (fun h => h) (.cons hc5 (.cons (fun h => h) (.cons (fun h => h) (.cons (fun h => h) (.cons hc6 (.cons (fun h => h) (.cons (fun h => h) (.cons (fun h => h) (.cons hc7 (.cons (fun h => h) (.cons (fun h => h) (.cons hc8 (.cons (fun h => h) (.cons (fun h => h) (.cons (fun h => h) (.cons (fun hW h => by revert hW h; first | (simp +contextual; done) | grind) (.cons (fun h => by rw [h]; rfl) .nil))))))))))))))))))))))))) (.free (c_crew_in (p1.getD i1 default) 0 (((p0.next.length : Nat) : Int) - 1)) .nil) ?_
   refine W.cond rfl (fun hb9 => ?_) (fun hb9 => ?_)
   · have H := of_true H hb9
     refine W.rg env [4] [] ?_
     refine W.ret ?_
     refine At.rinb ?_
     refine At.rthen ?_
     refine At.rthen ?_
     refine At.rinb ?_
     refine At.rthen ?_
     cases H
     exact At.ret env.ty rfl rfl (fun q hq => by cases hq) (.refl _) hval
   · have H := of_false H hb9
     refine W.skip ?_
     refine At.inb ?_
     refine At.thenC ?_
     refine W.region env [] [] rfl rfl rfl (.cons (by unfold inI; have := hn1; (try unfold maxLen at this); omega) .nil) .nil (At.keep (ts := [0, 1, 7, 8, 9]) (ids := []) rfl rfl ?_)
     refine At.thenK (At.keep (ts := [0, 1, 7, 8, 9]) (ids := []) rfl rfl ?_)
     exact At.conv (.cons .q (.cons .q (.cons .q (.cons .qi (.cons .qi .nil))))) .nil (hK1 hi1 () H)
 · have H := H2 (by have := of_decide_eq_false hb2; omega)
   refine W.exit ?_
   refine At.xthen ?_
   refine At.xthen ?_
   refine At.xhere ?_
   refine At.thenC ?_
   refine W.rg env [4] [] ?_
   refine W.ret ?_
   cases H
   exact At.ret env.ty rfl rfl (fun q hq => by cases hq) (.refl _) hval
end Go.Sp
