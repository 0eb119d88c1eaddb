/- Printed by gen.py. -/
import Derived.Test.YtnaodipmfaglfaaFr4
import Derived.Test.YtnaodipmfaglfaaFr3
import Derived.Test.YtnaodipmfaglfaaProg
import Derived.KernelRfl
import Derived.Shelf.Spec.SlicesInsert
import Derived.Tactics
import Derived.Tactics2
set_option linter.all false
set_option maxRecDepth 100000
set_option maxHeartbeats 1000000
set_option linter.unusedVariables false
namespace Go.Proofs
open Go.Shelf Go.RowKit Go.Lib
theorem wpList_append_runI {P : Program} (w : World) {ops : Array Oper} {rest : List Oper} {o : Oper} {a : Act} {Q : Exit → Act → World → Prop} (hgd : o.guard = none) (d s : Operand) (t t' : TypeId)
   (ho : o.op = .call { callee := .builtin .append, args := #[d, s], argTypes := #[t, t'] }) (v u : Value) (hd : a.eval d = v) (hs : a.eval s = u) {v' : Value} {w' : World}
   (hr : (Builtin.append_ #[t, t'] o.type #[v, u]).run P w = .ok v' w') (h : wpList P ops Q rest (a.put o.dst v') w') : wpList P ops Q (o :: rest) a w :=
 wpList_plain hgd fun _ hK => by
   unfold Oper.wp execOp
   simp only [ho, resolve, invoke, builtin, Sem.run_bind, Sem.run_pure, Result.andThen_ok, List.map_toArray, List.map_cons, List.map_nil, hd, hs, hr]
   exact hK _ _ h
set_option maxHeartbeats 4000000 in
set_option maxRecDepth 100000 in
theorem insw_Try_90 : Go.Av.InsW Try.prog 90 22 3 110 4 where
 shift := by
   intro g n c i vb vc w W1 W2 hi hroom hc63 hov hcp1 hcp2
   have hz2 : ¬ ((i : Int) = (n : Int)) := by omega
   have hw1 : IntKind.i64.wrap ((i : Int) + 1) = (i : Int) + 1 := by rw [IntKind.wrap_i64]; omega
   have hw2 : IntKind.i64.wrap ((n : Int) + 1) = (n : Int) + 1 := by rw [IntKind.wrap_i64]; omega
   have hb1 : (0 : Int) ≤ (i : Int) + 1 := by omega
   have hin : i ≤ n := by omega
   have htn : ((i : Int) + 1).toNat = i + 1 := by omega
   have hb3 : (i : Int) ≤ (n : Int) + 1 := by omega
   have hb2 : ¬ (c = i + 1) := by omega
   have hb4 : ¬ (c = i) := by omega
   have mixed : Try.prog.follows .mixedOrders = true := by kernel_rfl
   go_enter Try.func90, Try.ntmps90
   go_wp2_with (simp only [hov])
   go_region_law_o (refine step_copy_runI rfl _ _ 22 22 rfl _ _ (by simp [Act.eval, Act.put]) (by simp [Act.eval, Act.put]) (hcp1 _ _ _) ?_)
   go_wp2_with (at_builtin; refine wpList_copy_runI _ rfl _ _ 22 22 rfl _ _ rfl rfl (hcp2 _ _) ?_)
   go_ret
   exact ⟨rfl, rfl⟩
 end_ := by
   intro g n c vb vc w v' w' hnc hc63 hap
   have mixed : Try.prog.follows .mixedOrders = true := by kernel_rfl
   by_cases hcn : c = n
   · subst hcn
     go_enter Try.func90, Try.ntmps90
     go_wp2_with (at_builtin; refine wpList_append_runI _ rfl _ _ 22 22 rfl _ _ rfl rfl (hap _) ?_)
     go_ret
     exact ⟨rfl, rfl⟩
   · go_enter Try.func90, Try.ntmps90
     go_wp2_with (at_builtin; refine wpList_append_runI _ rfl _ _ 22 22 rfl _ _ rfl rfl (hap _) ?_)
     go_ret
     exact ⟨rfl, rfl⟩
 nil_ := by
   intro vb vc w v' w' hap
   have mixed : Try.prog.follows .mixedOrders = true := by kernel_rfl
   go_enter Try.func90, Try.ntmps90
   go_wp2_with (at_builtin; refine wpList_append_runI _ rfl _ _ 22 22 rfl _ _ rfl rfl (hap _) ?_)
   go_ret
   exact ⟨rfl, rfl⟩
 grow := by
   intro g n c i vb vc g2 c2 w W1 W2 W3 hi hnc hroom hn63 hc2 hc63 hap hcp1 hcp2
   have hz2 : ¬ ((i : Int) = (n : Int)) := by omega
   have hw1 : IntKind.i64.wrap ((i : Int) + 1) = (i : Int) + 1 := by rw [IntKind.wrap_i64]; omega
   have hw2 : IntKind.i64.wrap ((n : Int) + 1) = (n : Int) + 1 := by rw [IntKind.wrap_i64]; omega
   have hb1 : (0 : Int) ≤ (i : Int) + 1 := by omega
   have hin : i ≤ n := by omega
   have htn : ((i : Int) + 1).toNat = i + 1 := by omega
   have hb3 : (i : Int) ≤ (n : Int) + 1 := by omega
   have hw3 : IntKind.i64.wrap ((n : Int) + 1 - (i : Int)) = (n : Int) + 1 - (i : Int) := by rw [IntKind.wrap_i64]; omega
   have hic : i ≤ c := by omega
   have hb2 : ¬ (c2 = i + 1) := by omega
   have hb4 : ¬ (c2 = i) := by omega
   have hb5 : ¬ (c = i) := by omega
   have mixed : Try.prog.follows .mixedOrders = true := by kernel_rfl
   go_enter Try.func90, Try.ntmps90
   go_wp2_with (at_builtin; refine wpList_append_runI _ rfl _ _ 22 3 rfl _ _ rfl rfl (hap _) ?_)
   go_wp2_with (at_builtin; refine wpList_copy_runI _ rfl _ _ 22 22 rfl _ _ rfl rfl (hcp1 _ _) ?_)
   go_region_law_o (refine step_copy_runI rfl _ _ 22 22 rfl _ _ (by simp [Act.eval, Act.put]) (by simp [Act.eval, Act.put]) (hcp2 _ _ _) ?_)
   go_wp2
   go_ret
   exact ⟨rfl, rfl⟩
theorem insv_Try_90 (w : World) (a b : Value) (h : (Extern.SlicesOverlaps.overlaps #[22, 22] #[4] #[a, b]).run Try.prog w = .ok (.bool false) w) : (callFunc 110 #[a, b]).run Try.prog w = .ok (.value (.bool false)) w := by
 rw [run_callFunc_extern Try.func110 (by kernel_rfl) (by kernel_rfl) (by kernel_rfl) (e := Extern.SlicesOverlaps.overlaps #[22, 22] #[4]) (by kernel_rfl), h]
 rfl
end Go.Proofs
namespace Go.Sp
open Go Go.Av Go.Proofs
def enc_Int (x : Int) : List AV := [.int .i64 (x)]
def enc_ListInt (x : (List Int)) : List AV := [roL 1 enc_Int x]
def enc_Range (x : Range) : List AV := [.int .i64 (x.Lo), .int .i64 (x.Hi)]
def enc_Hand (x : Hand) : List AV := [.int .i64 (x.Id), .int .i64 (x.From), .int .i64 (x.To)]
def enc_Task (x : Task) : List AV := [.int .i64 (x.Lamp), .int .i64 (x.Place), .int .i64 (x.At), .int .i64 (x.Serve)]
def enc_ListRange (x : (List Range)) : List AV := [roL 2 enc_Range x]
def tids : List Nat := [3, 4, 22, 23, 24, 26, 27, 28, 31, 49, 59, 64, 67, 71, 73, 77, 94, 99, 105, 107, 113, 120, 131]
def Γ : Tys := [(3, ⟨.int .i64, [.int .i64 0], 1, 8⟩),
 (4, ⟨.bool, [.bool false], 1, 1⟩),
 (22, ⟨.slice 67, [.slice none 0 0], 1, 24⟩),
 (23, ⟨.slice 71, [.slice none 0 0], 1, 24⟩),
 (24, ⟨.slice 59, [.slice none 0 0], 1, 24⟩),
 (26, ⟨.struct [(0, 22), (1, 23), (2, 24)], [.slice none 0 0, .slice none 0 0, .slice none 0 0], 3, 72⟩),
 (27, ⟨.slice 28, [.slice none 0 0], 1, 24⟩),
 (28, ⟨.slice 3, [.slice none 0 0], 1, 24⟩),
 (31, ⟨.int .i64, [.int .i64 0], 1, 8⟩),
 (49, ⟨.struct [(0, 3), (1, 3)], [.int .i64 0, .int .i64 0], 2, 16⟩),
 (59, ⟨.struct [(0, 3), (1, 3), (2, 3)], [.int .i64 0, .int .i64 0, .int .i64 0], 3, 24⟩),
 (64, ⟨.array 3 3, [.int .i64 0, .int .i64 0, .int .i64 0], 3, 24⟩),
 (67, ⟨.struct [(0, 3), (1, 3), (2, 3), (3, 3)], [.int .i64 0, .int .i64 0, .int .i64 0, .int .i64 0], 4, 32⟩),
 (71, ⟨.slice 49, [.slice none 0 0], 1, 24⟩),
 (73, ⟨.ptr 94, [.pointer none], 1, 8⟩),
 (77, ⟨.func, [.nilFunc], 1, 8⟩),
 (94, ⟨.struct [(0, 26), (3, 28)], [.slice none 0 0, .slice none 0 0, .slice none 0 0, .slice none 0 0], 4, 96⟩),
 (99, ⟨.struct [(0, 73), (1, 27)], [.pointer none, .slice none 0 0], 2, 32⟩),
 (105, ⟨.func, [.nilFunc], 1, 8⟩),
 (107, ⟨.func, [.nilFunc], 1, 8⟩),
 (113, ⟨.func, [.nilFunc], 1, 8⟩),
 (120, ⟨.int .u64, [.int .u64 0], 1, 8⟩),
 (131, ⟨.func, [.nilFunc], 1, 8⟩)]
theorem Γ_ok : mkTys Try.prog tids = some Γ := by kernel_rfl
theorem env : Env Try.prog Γ := ⟨mkTys_sound Γ_ok, by decide +kernel, by kernel_rfl⟩
def sort_ren : Go.Shelf.Ren where
 f := fun x => match x with
   | 189 => 48
   | 125 => 94
   | 257 => 93
   | 128 => 121
   | 129 => 122
   | 294 => 112
   | 295 => 113
   | 296 => 114
   | 297 => 115
   | 298 => 116
   | 299 => 117
   | 216 => 118
   | 300 => 119
   | 301 => 120
   | 328 => 125
   | 329 => 126
   | 330 => 127
   | 331 => 128
   | 332 => 129
   | 215 => 123
   | 343 => 131
   | n => n
 t := fun x => match x with
   | 28 => 28
   | 3 => 3
   | 46 => 120
   | 0 => 0
   | 51 => 143
   | 53 => 145
   | 4 => 4
   | 183 => 136
   | 182 => 135
   | 131 => 114
   | 5 => 5
   | 9 => 9
   | 218 => 146
   | 222 => 150
   | 228 => 153
   | 229 => 154
   | n => n
 g := fun x => x
theorem sort_lays : Go.Proofs.Lays.n189 Try.prog sort_ren :=
 {
   mixed := by kernel_rfl,
   f125 := Try.func94.trans (congrArg some (by kernel_rfl)),
   f128 := Try.func121.trans (congrArg some (by kernel_rfl)),
   f129 := Try.func122.trans (congrArg some (by kernel_rfl)),
   f189 := Try.func48.trans (congrArg some (by kernel_rfl)),
   f215 := Try.func123.trans (congrArg some (by kernel_rfl)),
   f216 := Try.func118.trans (congrArg some (by kernel_rfl)),
   f257 := Try.func93.trans (congrArg some (by kernel_rfl)),
   f294 := Try.func112.trans (congrArg some (by kernel_rfl)),
   f295 := Try.func113.trans (congrArg some (by kernel_rfl)),
   f296 := Try.func114.trans (congrArg some (by kernel_rfl)),
   f297 := Try.func115.trans (congrArg some (by kernel_rfl)),
   f298 := Try.func116.trans (congrArg some (by kernel_rfl)),
   f299 := Try.func117.trans (congrArg some (by kernel_rfl)),
   f300 := Try.func119.trans (congrArg some (by kernel_rfl)),
   f301 := Try.func120.trans (congrArg some (by kernel_rfl)),
   f328 := Try.func125.trans (congrArg some (by kernel_rfl)),
   f329 := Try.func126.trans (congrArg some (by kernel_rfl)),
   f330 := Try.func127.trans (congrArg some (by kernel_rfl)),
   f331 := Try.func128.trans (congrArg some (by kernel_rfl)),
   f332 := Try.func129.trans (congrArg some (by kernel_rfl)),
   f343 := Try.func131.trans (congrArg some (by kernel_rfl)),
   t0 := Try.underlying0,
   a0 := Try.isAgg0,
   z0 := Try.sizeOf0,
   v0 := Try.zeroValue0,
   t3 := Try.underlying3,
   a3 := Try.isAgg3,
   z3 := Try.sizeOf3,
   v3 := Try.zeroValue3,
   t4 := Try.underlying4,
   a4 := Try.isAgg4,
   z4 := Try.sizeOf4,
   v4 := Try.zeroValue4,
   t5 := Try.underlying5,
   a5 := Try.isAgg5,
   z5 := Try.sizeOf5,
   v5 := Try.zeroValue5,
   t9 := Try.underlying9,
   a9 := Try.isAgg9,
   z9 := Try.sizeOf9,
   v9 := Try.zeroValue9,
   t28 := Try.underlying28,
   a28 := Try.isAgg28,
   z28 := Try.sizeOf28,
   v28 := Try.zeroValue28,
   t46 := Try.underlying120,
   a46 := Try.isAgg120,
   z46 := Try.sizeOf120,
   v46 := Try.zeroValue120,
   t51 := Try.underlying143,
   a51 := Try.isAgg143,
   z51 := Try.sizeOf143,
   v51 := Try.zeroValue143,
   t53 := Try.underlying145,
   a53 := Try.isAgg145,
   z53 := Try.sizeOf145,
   v53 := Try.zeroValue145,
   t131 := Try.underlying114,
   a131 := Try.isAgg114,
   z131 := Try.sizeOf114,
   v131 := Try.zeroValue114,
   t182 := Try.underlying135,
   a182 := Try.isAgg135,
   z182 := Try.sizeOf135,
   v182 := Try.zeroValue135,
   t183 := Try.underlying136,
   a183 := Try.isAgg136,
   z183 := Try.sizeOf136,
   v183 := Try.zeroValue136,
   t218 := Try.underlying146,
   a218 := Try.isAgg146,
   z218 := Try.sizeOf146,
   v218 := Try.zeroValue146,
   t222 := Try.underlying150,
   a222 := Try.isAgg150,
   z222 := Try.sizeOf150,
   v222 := Try.zeroValue150,
   t228 := Try.underlying153,
   a228 := Try.isAgg153,
   z228 := Try.sizeOf153,
   v228 := Try.zeroValue153,
   t229 := Try.underlying154,
   a229 := Try.isAgg154,
   z229 := Try.sizeOf154,
   v229 := Try.zeroValue154 }
theorem c_gasolierref01_IsRange (p0 : Range) (p1 : Int) (p2 : Int) : Ctr Try.prog 95 [.agg [.int .i64 (p0.Lo), .int .i64 (p0.Hi)], .int .i64 (p1), .int .i64 (p2)] (.bool ((gasolierref01_IsRange p0 p1 p2))) := by
 obtain ⟨r, H⟩ : ∃ r, gasolierref01_IsRange p0 p1 p2 = r := ⟨_, rfl⟩
 rw [H]
 unfold gasolierref01_IsRange at H
 refine Ctr.of_body (N := 24) Try.func95 (by kernel_rfl) (c := _) rfl Try.ntmps95 rfl (fun w0 h0 hval => ?_)
 refine W.rg env [1, 2, 3] [3] ?_
 refine W.sr env [] [] [6] [] rfl rfl rfl (.cons (fun h => h) (.cons (fun h => h) (.cons (fun h => h) (.cons (fun h => h) (.cons (fun h => h) (.cons (fun h => h) (.cons (fun h => h) (.cons (fun h => h) (.cons (fun h => h) .nil))))))))) .nil ?_
 refine W.ret ?_
 cases H
 exact At.ret env.ty rfl rfl (fun q hq => by cases hq) (.refl _) hval
theorem c_gasolierref04_isTravel (p0 : (List (List Range))) {r : Bool} (H : gasolierref04_isTravel p0 = some r) : Ctr Try.prog 52 [roL 1 enc_ListRange p0] (.bool (r)) := by
 unfold gasolierref04_isTravel at H
 refine Ctr.of_body (N := 116) Try.func52 (by kernel_rfl) (c := _) rfl Try.ntmps52 rfl (fun w0 h0 hval => ?_)
 refine W.rg env [0] [] ?_
 refine W.seq ?_
 refine W.rg env [0, 12] [] ?_
 refine W.cond rfl (fun hb1 => ?_) (fun hb1 => ?_)
 · have H := of_true H hb1
   refine W.rg env [2] [] ?_
   refine W.ret ?_
   refine At.rthen ?_
   cases H
   exact At.ret env.ty rfl rfl (fun q hq => by cases hq) (.refl _) hval
 · have H := of_false H hb1
   refine W.skip ?_
   refine At.thenC ?_
   refine W.seq ?_
   refine W.rg env [0, 13, 14, 15] [] ?_
   refine W.block ?_
   refine At.keep (ts := [0, 13, 14, 15]) (ids := []) rfl rfl ?_
   refine W.len (t := 13) rfl (fun (hn2 : p0.length ≤ maxLen) => ?_)
   refine W.rangeGo H (fun i2 (s2 : Unit) => [(0, roL 1 enc_ListRange p0), (13, roL 1 enc_ListRange p0), (14, .int .i64 (((p0.length : Nat) : Int))), (15, .int .i64 ((i2 : Int)))]) (fun i2 (s2 : Unit) => []) (.cons .q (.cons .q (.cons .qi (.cons .qi .nil)))) .nil (fun k2 i2 s2 hle2 H1 H2 K0 hK2 => ?_)
   refine W.rg env [0, 13, 14, 15, 16] [] ?_
   refine W.seq ?_
   refine W.cond rfl (fun hb3 => ?_) (fun hb3 => ?_)
   · have hi2 : i2 < p0.length := by have := of_decide_eq_true hb3; omega
     have H := H1 hi2
     refine W.skip ?_
     refine At.thenC ?_
     refine W.seq ?_
     refine W.block ?_
     refine W.sr env [] [] [0, 3, 4, 13, 14, 15] [] rfl rfl rfl (.cons (⟨by omega, by omega⟩ : 0 ≤ (i2 : Int) ∧ (i2 : Int) < ((p0.length : Nat) : Int)) .nil) .nil ?_
     refine W.seq ?_
     obtain ⟨hc4, H⟩ := of_must H
     refine W.sr env [] [] [0, 4, 13, 14, 15, 32] [] rfl rfl rfl (.cons hc4 (.cons (fun h => h) (.cons (fun h => h) (.cons (fun h => h) (.cons (fun h => h) (.cons (fun h => h) (.cons (fun h => by rw [h]; rfl) .nil))))))) .nil ?_
     refine W.cond rfl (fun hb5 => ?_) (fun hb5 => ?_)
     · have H := of_true H hb5
       refine W.rg env [2] [] ?_
       refine W.ret ?_
       refine At.rthen ?_
       refine At.rinb ?_
       refine At.rthen ?_
       refine At.rthen ?_
       refine At.rinb ?_
       refine At.rthen ?_
       cases H
       exact At.ret env.ty rfl rfl (fun q hq => by cases hq) (.refl _) hval
     · have H := of_false H hb5
       refine W.skip ?_
       refine At.thenC ?_
       refine W.rg env [0, 13, 14, 15, 33, 34, 35] [] ?_
       refine W.block ?_
       refine At.keep (ts := [0, 13, 14, 15, 33, 34, 35]) (ids := []) rfl rfl ?_
       refine W.len (t := 33) rfl (fun (hn6 : (p0.getD i2 default).length ≤ maxLen) => ?_)
       refine W.rangeGo H (fun i6 (s6 : Unit) => [(0, roL 1 enc_ListRange p0), (13, roL 1 enc_ListRange p0), (14, .int .i64 (((p0.length : Nat) : Int))), (15, .int .i64 ((i2 : Int))), (33, roL 2 enc_Range (p0.getD i2 default)), (34, .int .i64 ((((p0.getD i2 default).length : Nat) : Int))), (35, .int .i64 ((i6 : Int)))]) (fun i6 (s6 : Unit) => []) (.cons .q (.cons .q (.cons .qi (.cons .qi (.cons .q (.cons .qi (.cons .qi .nil))))))) .nil (fun k6 i6 s6 hle6 H1 H2 K0 hK6 => ?_)
       refine W.rg env [0, 13, 14, 15, 33, 34, 35, 36] [] ?_
       refine W.seq ?_
       refine W.cond rfl (fun hb7 => ?_) (fun hb7 => ?_)
       · have hi6 : i6 < (p0.getD i2 default).length := by have := of_decide_eq_true hb7; omega
         have H := H1 hi6
         refine W.skip ?_
         refine At.thenC ?_
         refine W.seq ?_
         refine W.block ?_
         refine W.sr env [] [] [0, 6, 13, 14, 15, 33, 34, 35] [6] rfl rfl rfl (.cons (⟨by omega, by omega⟩ : 0 ≤ (i6 : Int) ∧ (i6 : Int) < (((p0.getD i2 default).length : Nat) : Int)) .nil) .nil ?_
         refine W.sr env [] [⟨.bool ((gasolierref01_IsRange ((p0.getD i2 default).getD i6 default) 0 600)), [], 0, []⟩] [0, 13, 14, 15, 33, 34, 35, 41] [] rfl rfl rfl .nil (.free (c_gasolierref01_IsRange ((p0.getD i2 default).getD i6 default) 0 600) .nil) ?_
         refine W.cond rfl (fun hb8 => ?_) (fun hb8 => ?_)
         · have H := of_true H hb8
           refine W.rg env [2] [] ?_
           refine W.ret ?_
           refine At.rinb ?_
           refine At.rthen ?_
           refine At.rthen ?_
           refine At.rinb ?_
           refine At.rinb ?_
           refine At.rthen ?_
           refine At.rthen ?_
           refine At.rinb ?_
           refine At.rthen ?_
           cases H
           exact At.ret env.ty rfl rfl (fun q hq => by cases hq) (.refl _) hval
         · have H := of_false H hb8
           refine W.skip ?_
           refine At.inb ?_
           refine At.thenC ?_
           refine W.region env [] [] rfl rfl rfl (.cons (by unfold inI; have := hn6; (try unfold maxLen at this); omega) .nil) .nil (At.keep (ts := [0, 13, 14, 15, 33, 34, 35]) (ids := []) rfl rfl ?_)
           refine At.thenK (At.keep (ts := [0, 13, 14, 15, 33, 34, 35]) (ids := []) rfl rfl ?_)
           exact At.conv (.cons .q (.cons .q (.cons .qi (.cons .qi (.cons .q (.cons .qi (.cons .qi .nil))))))) .nil (hK6 hi6 () H)
       · have H := H2 (by have := of_decide_eq_false hb7; omega)
         refine W.exit ?_
         refine At.xthen ?_
         refine At.xthen ?_
         refine At.xhere ?_
         refine At.inb ?_
         refine At.thenC ?_
         refine W.region env [] [] rfl rfl rfl (.cons (by unfold inI; have := hn2; (try unfold maxLen at this); omega) .nil) .nil (At.keep (ts := [0, 13, 14, 15]) (ids := []) rfl rfl ?_)
         refine At.thenK (At.keep (ts := [0, 13, 14, 15]) (ids := []) rfl rfl ?_)
         exact At.conv (.cons .q (.cons .q (.cons .qi (.cons .qi .nil)))) .nil (hK2 hi2 () H)
   · have H := H2 (by have := of_decide_eq_false hb3; omega)
     refine W.exit ?_
     refine At.xthen ?_
     refine At.xthen ?_
     refine At.xhere ?_
     refine At.thenC ?_
     refine W.seq ?_
     refine W.rg env [0, 45, 46] [] ?_
     refine W.block ?_
     refine At.keep (ts := [0, 45, 46]) (ids := []) rfl rfl ?_
     refine W.len (t := 0) rfl (fun (hn9 : p0.length ≤ maxLen) => ?_)
     refine W.rangeGo H (fun i9 (s9 : Unit) => [(0, roL 1 enc_ListRange p0), (45, .int .i64 (((p0.length : Nat) : Int))), (46, .int .i64 ((i9 : Int)))]) (fun i9 (s9 : Unit) => []) (.cons .q (.cons .qi (.cons .qi .nil))) .nil (fun k9 i9 s9 hle9 H1 H2 K0 hK9 => ?_)
     refine W.rg env [0, 45, 46, 47] [] ?_
     refine W.seq ?_
     refine W.cond rfl (fun hb10 => ?_) (fun hb10 => ?_)
     · have hi9 : i9 < p0.length := by have := of_decide_eq_true hb10; omega
       have H := H1 hi9
       refine W.skip ?_
       refine At.thenC ?_
       refine W.seq ?_
       refine W.block ?_
       refine W.rg env [0, 7, 45, 46] [] ?_
       refine W.rg env [0, 7, 45, 46, 50, 51] [] ?_
       refine W.block ?_
       refine At.keep (ts := [0, 7, 45, 46, 50, 51]) (ids := []) rfl rfl ?_
       refine W.len (t := 0) rfl (fun (hn11 : p0.length ≤ maxLen) => ?_)
       refine W.rangeGo H (fun i11 (s11 : Unit) => [(0, roL 1 enc_ListRange p0), (7, .int .i64 ((i9 : Int))), (45, .int .i64 (((p0.length : Nat) : Int))), (46, .int .i64 ((i9 : Int))), (50, .int .i64 (((p0.length : Nat) : Int))), (51, .int .i64 ((i11 : Int)))]) (fun i11 (s11 : Unit) => []) (.cons .q (.cons .qi (.cons .qi (.cons .qi (.cons .qi (.cons .qi .nil)))))) .nil (fun k11 i11 s11 hle11 H1 H2 K0 hK11 => ?_)
       refine W.rg env [0, 7, 45, 46, 50, 51, 52] [] ?_
       refine W.seq ?_
       refine W.cond rfl (fun hb12 => ?_) (fun hb12 => ?_)
       · have hi11 : i11 < p0.length := by have := of_decide_eq_true hb12; omega
         have H := H1 hi11
         refine W.skip ?_
         refine At.thenC ?_
         refine W.seq ?_
         refine W.block ?_
         refine W.rg env [0, 7, 8, 45, 46, 50, 51] [] ?_
         refine W.rg env [0, 7, 8, 45, 46, 50, 51, 55, 56] [] ?_
         refine W.block ?_
         refine At.keep (ts := [0, 7, 8, 45, 46, 50, 51, 55, 56]) (ids := []) rfl rfl ?_
         refine W.len (t := 0) rfl (fun (hn13 : p0.length ≤ maxLen) => ?_)
         refine W.rangeGo H (fun i13 (s13 : Unit) => [(0, roL 1 enc_ListRange p0), (7, .int .i64 ((i9 : Int))), (8, .int .i64 ((i11 : Int))), (45, .int .i64 (((p0.length : Nat) : Int))), (46, .int .i64 ((i9 : Int))), (50, .int .i64 (((p0.length : Nat) : Int))), (51, .int .i64 ((i11 : Int))), (55, .int .i64 (((p0.length : Nat) : Int))), (56, .int .i64 ((i13 : Int)))]) (fun i13 (s13 : Unit) => []) (.cons .q (.cons .qi (.cons .qi (.cons .qi (.cons .qi (.cons .qi (.cons .qi (.cons .qi (.cons .qi .nil))))))))) .nil (fun k13 i13 s13 hle13 H1 H2 K0 hK13 => ?_)
         refine W.rg env [0, 7, 8, 45, 46, 50, 51, 55, 56, 57] [] ?_
         refine W.seq ?_
         refine W.cond rfl (fun hb14 => ?_) (fun hb14 => ?_)
         · have hi13 : i13 < p0.length := by have := of_decide_eq_true hb14; omega
           have H := H1 hi13
           refine W.skip ?_
           refine At.thenC ?_
           refine W.seq ?_
           refine W.block ?_
           refine W.rg env [0, 7, 8, 9, 45, 46, 50, 51, 55, 56] [] ?_
           obtain ⟨hc15, H⟩ := of_must H
           obtain ⟨hc16, H⟩ := of_must H
           obtain ⟨hc17, H⟩ := of_must H
           obtain ⟨hc18, H⟩ := of_must H
           obtain ⟨hc19, H⟩ := of_must H
           obtain ⟨hc20, H⟩ := of_must H
           obtain ⟨hc21, H⟩ := of_must H
           obtain ⟨hc22, H⟩ := of_must H
           refine W.sr env [] [] [0, 7, 8, 45, 46, 50, 51, 55, 56, 112] [] rfl rfl (by first | rfl | kernel_rfl) (.cons (⟨by omega, by omega⟩ : 0 ≤ (i9 : Int) ∧ (i9 : Int) < ((p0.length : Nat) : Int)) (.cons hc15 (.cons (⟨by omega, by omega⟩ : 0 ≤ (i9 : Int) ∧ (i9 : Int) < ((p0.length : Nat) : Int)) (.cons hc16 (.cons (⟨by omega, by omega⟩ : 0 ≤ (i11 : Int) ∧ (i11 : Int) < ((p0.length : Nat) : Int)) (.cons hc17 (.cons hc18 (.cons (fun _ => (⟨by omega, by omega⟩ : 0 ≤ (i9 : Int) ∧ (i9 : Int) < ((p0.length : Nat) : Int))) (.cons (fun h => h) (.cons (fun h => h) (.cons (fun h => h) (.cons hc19 (.cons (fun h => h) (.cons (fun h => h) (.cons (fun h => h) (.cons (fun h => h) (.cons (fun _ => (⟨by omega, by omega⟩ : 0 ≤ (i9 : Int) ∧ (i9 : Int) < ((p0.length : Nat) : Int))) (.cons (fun h => h) (.cons (fun h => h) (.cons (fun h => h) (.cons hc20 (.cons (fun h => h) (.cons (fun h => h) (.cons (fun h => h) (.cons (fun h => h) (.cons (fun _ => (⟨by omega, by omega⟩ : 0 ≤ (i11 : Int) ∧ (i11 : Int) < ((p0.length : Nat) : Int))) (.cons (fun h => h) (.cons (fun h => h) (.cons (fun h => h) (.cons hc21 (.cons (fun h => h) (.cons (fun h => h) (.cons (fun h => h) (.cons (fun h => h) (.cons hc22 (.cons (fun h => h) (.cons (fun h => h) (.cons (fun h => h) (.cons (fun h => h) (.cons (fun h => by rw [h]; rfl) .nil)))))))))))))))))))))))))))))))))))))))) .nil ?_
           refine W.cond rfl (fun hb23 => ?_) (fun hb23 => ?_)
           · have H := of_true H hb23
             refine W.rg env [2] [] ?_
             refine W.ret ?_
             refine At.rinb ?_
             refine At.rthen ?_
             refine At.rthen ?_
             refine At.rinb ?_
             refine At.rinb ?_
             refine At.rthen ?_
             refine At.rthen ?_
             refine At.rinb ?_
             refine At.rinb ?_
             refine At.rthen ?_
             refine At.rthen ?_
             refine At.rinb ?_
             refine At.rthen ?_
             cases H
             exact At.ret env.ty rfl rfl (fun q hq => by cases hq) (.refl _) hval
           · have H := of_false H hb23
             refine W.skip ?_
             refine At.inb ?_
             refine At.thenC ?_
             refine W.region env [] [] rfl rfl rfl (.cons (by unfold inI; have := hn13; (try unfold maxLen at this); omega) .nil) .nil (At.keep (ts := [0, 7, 8, 45, 46, 50, 51, 55, 56]) (ids := []) rfl rfl ?_)
             refine At.thenK (At.keep (ts := [0, 7, 8, 45, 46, 50, 51, 55, 56]) (ids := []) rfl rfl ?_)
             exact At.conv (.cons .q (.cons .qi (.cons .qi (.cons .qi (.cons .qi (.cons .qi (.cons .qi (.cons .qi (.cons .qi .nil))))))))) .nil (hK13 hi13 () H)
         · have H := H2 (by have := of_decide_eq_false hb14; omega)
           refine W.exit ?_
           refine At.xthen ?_
           refine At.xthen ?_
           refine At.xhere ?_
           refine At.inb ?_
           refine At.thenC ?_
           refine W.region env [] [] rfl rfl rfl (.cons (by unfold inI; have := hn11; (try unfold maxLen at this); omega) .nil) .nil (At.keep (ts := [0, 7, 45, 46, 50, 51]) (ids := []) rfl rfl ?_)
           refine At.thenK (At.keep (ts := [0, 7, 45, 46, 50, 51]) (ids := []) rfl rfl ?_)
           exact At.conv (.cons .q (.cons .qi (.cons .qi (.cons .qi (.cons .qi (.cons .qi .nil)))))) .nil (hK11 hi11 () H)
       · have H := H2 (by have := of_decide_eq_false hb12; omega)
         refine W.exit ?_
         refine At.xthen ?_
         refine At.xthen ?_
         refine At.xhere ?_
         refine At.inb ?_
         refine At.thenC ?_
         refine W.region env [] [] rfl rfl rfl (.cons (by unfold inI; have := hn9; (try unfold maxLen at this); omega) .nil) .nil (At.keep (ts := [0, 45, 46]) (ids := []) rfl rfl ?_)
         refine At.thenK (At.keep (ts := [0, 45, 46]) (ids := []) rfl rfl ?_)
         exact At.conv (.cons .q (.cons .qi (.cons .qi .nil))) .nil (hK9 hi9 () H)
     · have H := H2 (by have := of_decide_eq_false hb10; omega)
       refine W.exit ?_
       refine At.xthen ?_
       refine At.xthen ?_
       refine At.xhere ?_
       refine At.thenC ?_
       refine W.rg env [2] [] ?_
       refine W.ret ?_
       cases H
       exact At.ret env.ty rfl rfl (fun q hq => by cases hq) (.refl _) hval
theorem c_gasolierref01_Within (p0 : Int) (p1 : Int) (p2 : Int) : Ctr Try.prog 49 [.int .i64 (p0), .int .i64 (p1), .int .i64 (p2)] (.bool ((gasolierref01_Within p0 p1 p2))) := by
 obtain ⟨r, H⟩ : ∃ r, gasolierref01_Within p0 p1 p2 = r := ⟨_, rfl⟩
 rw [H]
 unfold gasolierref01_Within at H
 refine Ctr.of_body (N := 15) Try.func49 (by kernel_rfl) (c := _) rfl Try.ntmps49 rfl (fun w0 h0 hval => ?_)
 refine W.rg env [0, 1, 2] [] ?_
 refine W.sr env [] [] [6] [] rfl rfl rfl (.cons (fun h => h) (.cons (fun h => h) (.cons (fun h => h) .nil))) .nil ?_
 refine W.ret ?_
 cases H
 exact At.ret env.ty rfl rfl (fun q hq => by cases hq) (.refl _) hval
theorem c_gasolierref04_CheckTask (p0 : Task) : Ctr Try.prog 53 [.agg [.int .i64 (p0.Lamp), .int .i64 (p0.Place), .int .i64 (p0.At), .int .i64 (p0.Serve)]] (.int .i64 ((gasolierref04_CheckTask p0))) := by
 obtain ⟨r, H⟩ : ∃ r, gasolierref04_CheckTask p0 = r := ⟨_, rfl⟩
 rw [H]
 unfold gasolierref04_CheckTask at H
 refine Ctr.of_body (N := 25) Try.func53 (by kernel_rfl) (c := _) rfl Try.ntmps53 rfl (fun w0 h0 hval => ?_)
 refine W.rg env [1] [1] ?_
 refine W.seq ?_
 refine W.sr env [] [⟨.bool ((gasolierref01_Within p0.Lamp 1 999)), [], 0, []⟩, ⟨.bool ((gasolierref01_Within p0.Place 0 11)), [], 0, []⟩, ⟨.bool ((gasolierref01_Within p0.At 0 1439)), [], 0, []⟩, ⟨.bool ((gasolierref01_Within p0.Serve 1 120)), [], 0, []⟩] [24] [] rfl rfl rfl (.cons (fun h => h) (.cons (fun h => h) (.cons (fun h => h) (.cons (fun h => by rw [h]; rfl) (.cons (fun h => h) (.cons (fun h => h) (.cons (fun h => h) (.cons (fun h => by rw [h]; rfl) (.cons (fun h => h) (.cons (fun h => h) (.cons (fun h => h) (.cons (fun h => by rw [h]; rfl) .nil)))))))))))) (.free (c_gasolierref01_Within p0.Lamp 1 999) (.on (fun hW => c_gasolierref01_Within p0.Place 0 11) (.on (fun hW => c_gasolierref01_Within p0.At 0 1439) (.on (fun hW => c_gasolierref01_Within p0.Serve 1 120) .nil)))) ?_
 refine W.cond rfl (fun hb1 => ?_) (fun hb1 => ?_)
 · have H := of_true H hb1
   refine W.rg env [2] [] ?_
   refine W.ret ?_
   refine At.rthen ?_
   cases H
   exact At.ret env.ty rfl rfl (fun q hq => by cases hq) (.refl _) hval
 · have H := of_false H hb1
   refine W.skip ?_
   refine At.thenC ?_
   refine W.rg env [2] [] ?_
   refine W.ret ?_
   cases H
   exact At.ret env.ty rfl rfl (fun q hq => by cases hq) (.refl _) hval
theorem c_gasolierref04_CheckHand (p0 : Hand) : Ctr Try.prog 54 [.agg [.int .i64 (p0.Id), .int .i64 (p0.From), .int .i64 (p0.To)]] (.int .i64 ((gasolierref04_CheckHand p0))) := by
 obtain ⟨r, H⟩ : ∃ r, gasolierref04_CheckHand p0 = r := ⟨_, rfl⟩
 rw [H]
 unfold gasolierref04_CheckHand at H
 refine Ctr.of_body (N := 16) Try.func54 (by kernel_rfl) (c := _) rfl Try.ntmps54 rfl (fun w0 h0 hval => ?_)
 refine W.rg env [1] [1] ?_
 refine W.seq ?_
 refine W.sr env [] [⟨.bool ((gasolierref01_Within p0.Id 1 99)), [], 0, []⟩, ⟨.bool ((gasolierref01_IsRange (⟨p0.From, p0.To⟩ : Range) 0 1439)), [], 0, []⟩] [15] [] rfl rfl rfl (.cons (fun h => h) (.cons (fun h => h) (.cons (fun h => h) (.cons (fun h => h) (.cons (fun h => h) (.cons (fun h => h) (.cons (fun h => by rw [h]; rfl) .nil))))))) (.free (c_gasolierref01_Within p0.Id 1 99) (.on (fun hW => c_gasolierref01_IsRange (⟨p0.From, p0.To⟩ : Range) 0 1439) .nil)) ?_
 refine W.cond rfl (fun hb1 => ?_) (fun hb1 => ?_)
 · have H := of_true H hb1
   refine W.rg env [2] [] ?_
   refine W.ret ?_
   refine At.rthen ?_
   cases H
   exact At.ret env.ty rfl rfl (fun q hq => by cases hq) (.refl _) hval
 · have H := of_false H hb1
   refine W.skip ?_
   refine At.thenC ?_
   refine W.rg env [2] [] ?_
   refine W.ret ?_
   cases H
   exact At.ret env.ty rfl rfl (fun q hq => by cases hq) (.refl _) hval
theorem c_gasolierref04_Check (p0 : Crew) {r : Int} (H : gasolierref04_Check p0 = some r) : Ctr Try.prog 15 [.agg [roL 4 enc_Task p0.Tasks, roL 1 enc_ListRange p0.Travel, roL 3 enc_Hand p0.Hands]] (.int .i64 (r)) := by
 unfold gasolierref04_Check at H
 refine Ctr.of_body (N := 87) Try.func15 (by kernel_rfl) (c := _) rfl Try.ntmps15 rfl (fun w0 h0 hval => ?_)
 refine W.rg env [1] [1] ?_
 refine W.seq ?_
 refine W.seq ?_
 obtain ⟨y1, hy2, H⟩ := of_bindO H
 refine W.region env [] [⟨.bool (y1), [], 0, []⟩] rfl rfl rfl (.cons (fun h => h) (.cons (fun h => h) (.cons (fun h => h) (.cons (fun h => by rw [h]; rfl) (.cons (fun h => h) (.cons (fun h => h) (.cons (fun h => h) (.cons (fun h => by rw [h]; rfl) .nil)))))))) (.on (fun hW => c_gasolierref04_isTravel p0.Travel (of_true hy2 hW)) .nil) (At.keep (ts := [1, 22]) (ids := [1]) rfl rfl ?_)
 refine At.thenC ?_
 refine W.cond rfl (fun hb3 => ?_) (fun hb3 => ?_)
 · have H := of_true H hb3
   refine W.rg env [2] [] ?_
   refine W.ret ?_
   refine At.rthen ?_
   cases H
   exact At.ret env.ty rfl rfl (fun q hq => by cases hq) (.refl _) hval
 · have H := of_false H hb3
   refine W.skip ?_
   refine At.thenC ?_
   refine W.seq ?_
   refine W.rg env [1, 24, 25, 26] [1] ?_
   refine W.block ?_
   refine At.keep (ts := [1, 24, 25, 26]) (ids := [1]) rfl rfl ?_
   refine W.len (t := 24) rfl (fun (hn4 : p0.Tasks.length ≤ maxLen) => ?_)
   refine W.rangeGo H (fun i4 (s4 : Unit) => [(1, .lp 1 0), (24, roL 4 enc_Task p0.Tasks), (25, .int .i64 (((p0.Tasks.length : Nat) : Int))), (26, .int .i64 ((i4 : Int)))]) (fun i4 (s4 : Unit) => [(1, .cells [roL 4 enc_Task p0.Tasks, roL 1 enc_ListRange p0.Travel, roL 3 enc_Hand p0.Hands])]) (.cons .q (.cons .q (.cons .qi (.cons .qi .nil)))) (.cons .q .nil) (fun k4 i4 s4 hle4 H1 H2 K0 hK4 => ?_)
   refine W.rg env [1, 24, 25, 26, 27] [1] ?_
   refine W.seq ?_
   refine W.cond rfl (fun hb5 => ?_) (fun hb5 => ?_)
   · have hi4 : i4 < p0.Tasks.length := by have := of_decide_eq_true hb5; omega
     have H := H1 hi4
     refine W.skip ?_
     refine At.thenC ?_
     refine W.seq ?_
     refine W.block ?_
     refine W.sr env [] [] [1, 3, 4, 24, 25, 26] [1, 4] rfl rfl rfl (.cons (⟨by omega, by omega⟩ : 0 ≤ (i4 : Int) ∧ (i4 : Int) < ((p0.Tasks.length : Nat) : Int)) .nil) .nil ?_
     obtain ⟨hc6, H⟩ := of_must H
     obtain ⟨hc7, H⟩ := of_must H
     refine W.sr env [] [⟨.int .i64 ((gasolierref04_CheckTask (p0.Tasks.getD i4 default))), [], 0, []⟩] [1, 24, 25, 26, 57] [1] rfl rfl (by kernel_rfl) (.cons (fun h => h) (.cons (fun h => h) (.cons (fun h => h) (.cons (fun h => h) (.cons (fun h => h) (.cons (fun h => by rw [h]; rfl) (.cons (fun h => h) (.cons (fun h => h) (.cons (fun h => h) (.cons hc6 (.cons (fun h => h) (.cons hc7 (.cons (fun h => h) (.cons (fun h => h) (.cons (fun h => h) (.cons (fun h => h) (.cons (fun h => h) (.cons (fun h => h) (.cons (fun h => h) (.cons (fun h => h) (.cons (fun hW h => by revert hW h; first | (simp +contextual; done) | grind) (.cons (fun h => by rw [h]; rfl) .nil)))))))))))))))))))))) (.free (c_gasolierref04_CheckTask (p0.Tasks.getD i4 default)) .nil) ?_
     refine W.cond rfl (fun hb8 => ?_) (fun hb8 => ?_)
     · have H := of_true H hb8
       refine W.rg env [2] [] ?_
       refine W.ret ?_
       refine At.rinb ?_
       refine At.rthen ?_
       refine At.rthen ?_
       refine At.rinb ?_
       refine At.rthen ?_
       cases H
       exact At.ret env.ty rfl rfl (fun q hq => by cases hq) (.refl _) hval
     · have H := of_false H hb8
       refine W.skip ?_
       refine At.inb ?_
       refine At.thenC ?_
       refine W.region env [] [] rfl rfl rfl (.cons (by unfold inI; have := hn4; (try unfold maxLen at this); omega) .nil) .nil (At.keep (ts := [1, 24, 25, 26]) (ids := [1]) rfl rfl ?_)
       refine At.thenK (At.keep (ts := [1, 24, 25, 26]) (ids := [1]) rfl rfl ?_)
       exact At.conv (.cons .q (.cons .q (.cons .qi (.cons .qi .nil)))) (.cons .q .nil) (hK4 hi4 () H)
   · have H := H2 (by have := of_decide_eq_false hb5; omega)
     refine W.exit ?_
     refine At.xthen ?_
     refine At.xthen ?_
     refine At.xhere ?_
     refine At.thenC ?_
     refine W.seq ?_
     refine W.rg env [1, 60, 61, 62] [1] ?_
     refine W.block ?_
     refine At.keep (ts := [1, 60, 61, 62]) (ids := [1]) rfl rfl ?_
     refine W.len (t := 60) rfl (fun (hn9 : p0.Hands.length ≤ maxLen) => ?_)
     refine W.rangeGo H (fun i9 (s9 : Unit) => [(1, .lp 1 0), (60, roL 3 enc_Hand p0.Hands), (61, .int .i64 (((p0.Hands.length : Nat) : Int))), (62, .int .i64 ((i9 : Int)))]) (fun i9 (s9 : Unit) => [(1, .cells [roL 4 enc_Task p0.Tasks, roL 1 enc_ListRange p0.Travel, roL 3 enc_Hand p0.Hands])]) (.cons .q (.cons .q (.cons .qi (.cons .qi .nil)))) (.cons .q .nil) (fun k9 i9 s9 hle9 H1 H2 K0 hK9 => ?_)
     refine W.rg env [1, 60, 61, 62, 63] [1] ?_
     refine W.seq ?_
     refine W.cond rfl (fun hb10 => ?_) (fun hb10 => ?_)
     · have hi9 : i9 < p0.Hands.length := by have := of_decide_eq_true hb10; omega
       have H := H1 hi9
       refine W.skip ?_
       refine At.thenC ?_
       refine W.seq ?_
       refine W.block ?_
       refine W.sr env [] [] [1, 5, 6, 60, 61, 62] [1, 6] rfl rfl rfl (.cons (⟨by omega, by omega⟩ : 0 ≤ (i9 : Int) ∧ (i9 : Int) < ((p0.Hands.length : Nat) : Int)) .nil) .nil ?_
       obtain ⟨hc11, H⟩ := of_must H
       obtain ⟨hc12, H⟩ := of_must H
       refine W.sr env [] [⟨.int .i64 ((gasolierref04_CheckHand (p0.Hands.getD i9 default))), [], 0, []⟩] [1, 60, 61, 62, 85] [1] rfl rfl (by kernel_rfl) (.cons (fun h => h) (.cons (fun h => h) (.cons (fun h => h) (.cons hc11 (.cons (fun h => h) (.cons hc12 (.cons (fun h => h) (.cons (fun h => h) (.cons (fun h => h) (.cons (fun h => h) (.cons (fun h => h) (.cons (fun h => h) (.cons (fun h => h) (.cons (fun h => h) (.cons (fun hW h => by revert hW h; first | (simp +contextual; done) | grind) (.cons (fun h => by rw [h]; rfl) .nil)))))))))))))))) (.free (c_gasolierref04_CheckHand (p0.Hands.getD i9 default)) .nil) ?_
       refine W.cond rfl (fun hb13 => ?_) (fun hb13 => ?_)
       · have H := of_true H hb13
         refine W.rg env [2] [] ?_
         refine W.ret ?_
         refine At.rinb ?_
         refine At.rthen ?_
         refine At.rthen ?_
         refine At.rinb ?_
         refine At.rthen ?_
         cases H
         exact At.ret env.ty rfl rfl (fun q hq => by cases hq) (.refl _) hval
       · have H := of_false H hb13
         refine W.skip ?_
         refine At.inb ?_
         refine At.thenC ?_
         refine W.region env [] [] rfl rfl rfl (.cons (by unfold inI; have := hn9; (try unfold maxLen at this); omega) .nil) .nil (At.keep (ts := [1, 60, 61, 62]) (ids := [1]) rfl rfl ?_)
         refine At.thenK (At.keep (ts := [1, 60, 61, 62]) (ids := [1]) rfl rfl ?_)
         exact At.conv (.cons .q (.cons .q (.cons .qi (.cons .qi .nil)))) (.cons .q .nil) (hK9 hi9 () H)
     · have H := H2 (by have := of_decide_eq_false hb10; omega)
       refine W.exit ?_
       refine At.xthen ?_
       refine At.xthen ?_
       refine At.xhere ?_
       refine At.thenC ?_
       refine W.rg env [2] [] ?_
       refine W.ret ?_
       cases H
       exact At.ret env.ty rfl rfl (fun q hq => by cases hq) (.refl _) hval
theorem c_crew_in (p0 : Int) (p1 : Int) (p2 : Int) : Ctr Try.prog 62 [.int .i64 (p0), .int .i64 (p1), .int .i64 (p2)] (.bool ((crew_in p0 p1 p2))) := by
 obtain ⟨r, H⟩ : ∃ r, crew_in p0 p1 p2 = r := ⟨_, rfl⟩
 rw [H]
 unfold crew_in at H
 refine Ctr.of_body (N := 15) Try.func62 (by kernel_rfl) (c := _) rfl Try.ntmps62 rfl (fun w0 h0 hval => ?_)
 refine W.rg env [0, 1, 2] [] ?_
 refine W.sr env [] [] [6] [] rfl rfl rfl (.cons (fun h => h) (.cons (fun h => h) (.cons (fun h => h) .nil))) .nil ?_
 refine W.ret ?_
 cases H
 exact At.ret env.ty rfl rfl (fun q hq => by cases hq) (.refl _) hval
theorem c_crew_isTravel (p0 : (List (List Range))) {r : Bool} (H : crew_isTravel p0 = some r) : Ctr Try.prog 55 [roL 1 enc_ListRange p0] (.bool (r)) := by
 unfold crew_isTravel at H
 refine Ctr.of_body (N := 124) Try.func55 (by kernel_rfl) (c := _) rfl Try.ntmps55 rfl (fun w0 h0 hval => ?_)
 refine W.rg env [0] [] ?_
 refine W.seq ?_
 refine W.rg env [0, 12] [] ?_
 refine W.cond rfl (fun hb1 => ?_) (fun hb1 => ?_)
 · have H := of_true H hb1
   refine W.rg env [2] [] ?_
   refine W.ret ?_
   refine At.rthen ?_
   cases H
   exact At.ret env.ty rfl rfl (fun q hq => by cases hq) (.refl _) hval
 · have H := of_false H hb1
   refine W.skip ?_
   refine At.thenC ?_
   refine W.seq ?_
   refine W.rg env [0, 13, 14, 15] [] ?_
   refine W.block ?_
   refine At.keep (ts := [0, 13, 14, 15]) (ids := []) rfl rfl ?_
   refine W.len (t := 13) rfl (fun (hn2 : p0.length ≤ maxLen) => ?_)
   refine W.rangeGo H (fun i2 (s2 : Unit) => [(0, roL 1 enc_ListRange p0), (13, roL 1 enc_ListRange p0), (14, .int .i64 (((p0.length : Nat) : Int))), (15, .int .i64 ((i2 : Int)))]) (fun i2 (s2 : Unit) => []) (.cons .q (.cons .q (.cons .qi (.cons .qi .nil)))) .nil (fun k2 i2 s2 hle2 H1 H2 K0 hK2 => ?_)
   refine W.rg env [0, 13, 14, 15, 16] [] ?_
   refine W.seq ?_
   refine W.cond rfl (fun hb3 => ?_) (fun hb3 => ?_)
   · have hi2 : i2 < p0.length := by have := of_decide_eq_true hb3; omega
     have H := H1 hi2
     refine W.skip ?_
     refine At.thenC ?_
     refine W.seq ?_
     refine W.block ?_
     refine W.sr env [] [] [0, 3, 4, 13, 14, 15] [] rfl rfl rfl (.cons (⟨by omega, by omega⟩ : 0 ≤ (i2 : Int) ∧ (i2 : Int) < ((p0.length : Nat) : Int)) .nil) .nil ?_
     refine W.seq ?_
     obtain ⟨hc4, H⟩ := of_must H
     refine W.sr env [] [] [0, 4, 13, 14, 15, 32] [] rfl rfl rfl (.cons hc4 (.cons (fun h => h) (.cons (fun h => h) (.cons (fun h => h) (.cons (fun h => h) (.cons (fun h => h) (.cons (fun h => by rw [h]; rfl) .nil))))))) .nil ?_
     refine W.cond rfl (fun hb5 => ?_) (fun hb5 => ?_)
     · have H := of_true H hb5
       refine W.rg env [2] [] ?_
       refine W.ret ?_
       refine At.rthen ?_
       refine At.rinb ?_
       refine At.rthen ?_
       refine At.rthen ?_
       refine At.rinb ?_
       refine At.rthen ?_
       cases H
       exact At.ret env.ty rfl rfl (fun q hq => by cases hq) (.refl _) hval
     · have H := of_false H hb5
       refine W.skip ?_
       refine At.thenC ?_
       refine W.rg env [0, 13, 14, 15, 33, 34, 35] [] ?_
       refine W.block ?_
       refine At.keep (ts := [0, 13, 14, 15, 33, 34, 35]) (ids := []) rfl rfl ?_
       refine W.len (t := 33) rfl (fun (hn6 : (p0.getD i2 default).length ≤ maxLen) => ?_)
       refine W.rangeGo H (fun i6 (s6 : Unit) => [(0, roL 1 enc_ListRange p0), (13, roL 1 enc_ListRange p0), (14, .int .i64 (((p0.length : Nat) : Int))), (15, .int .i64 ((i2 : Int))), (33, roL 2 enc_Range (p0.getD i2 default)), (34, .int .i64 ((((p0.getD i2 default).length : Nat) : Int))), (35, .int .i64 ((i6 : Int)))]) (fun i6 (s6 : Unit) => []) (.cons .q (.cons .q (.cons .qi (.cons .qi (.cons .q (.cons .qi (.cons .qi .nil))))))) .nil (fun k6 i6 s6 hle6 H1 H2 K0 hK6 => ?_)
       refine W.rg env [0, 13, 14, 15, 33, 34, 35, 36] [] ?_
       refine W.seq ?_
       refine W.cond rfl (fun hb7 => ?_) (fun hb7 => ?_)
       · have hi6 : i6 < (p0.getD i2 default).length := by have := of_decide_eq_true hb7; omega
         have H := H1 hi6
         refine W.skip ?_
         refine At.thenC ?_
         refine W.seq ?_
         refine W.block ?_
         refine W.sr env [] [] [0, 6, 13, 14, 15, 33, 34, 35] [6] rfl rfl rfl (.cons (⟨by omega, by omega⟩ : 0 ≤ (i6 : Int) ∧ (i6 : Int) < (((p0.getD i2 default).length : Nat) : Int)) .nil) .nil ?_
         refine W.sr env [] [⟨.bool ((crew_in (((p0.getD i2 default).getD i6 default).Lo) 0 (((p0.getD i2 default).getD i6 default).Hi))), [], 0, []⟩] [0, 13, 14, 15, 33, 34, 35, 49] [] rfl rfl rfl (.cons (fun h => h) (.cons (fun h => h) (.cons (fun h => by rw [h]; rfl) .nil))) (.free (c_crew_in (((p0.getD i2 default).getD i6 default).Lo) 0 (((p0.getD i2 default).getD i6 default).Hi)) .nil) ?_
         refine W.cond rfl (fun hb8 => ?_) (fun hb8 => ?_)
         · have H := of_true H hb8
           refine W.rg env [2] [] ?_
           refine W.ret ?_
           refine At.rinb ?_
           refine At.rthen ?_
           refine At.rthen ?_
           refine At.rinb ?_
           refine At.rinb ?_
           refine At.rthen ?_
           refine At.rthen ?_
           refine At.rinb ?_
           refine At.rthen ?_
           cases H
           exact At.ret env.ty rfl rfl (fun q hq => by cases hq) (.refl _) hval
         · have H := of_false H hb8
           refine W.skip ?_
           refine At.inb ?_
           refine At.thenC ?_
           refine W.region env [] [] rfl rfl rfl (.cons (by unfold inI; have := hn6; (try unfold maxLen at this); omega) .nil) .nil (At.keep (ts := [0, 13, 14, 15, 33, 34, 35]) (ids := []) rfl rfl ?_)
           refine At.thenK (At.keep (ts := [0, 13, 14, 15, 33, 34, 35]) (ids := []) rfl rfl ?_)
           exact At.conv (.cons .q (.cons .q (.cons .qi (.cons .qi (.cons .q (.cons .qi (.cons .qi .nil))))))) .nil (hK6 hi6 () H)
       · have H := H2 (by have := of_decide_eq_false hb7; omega)
         refine W.exit ?_
         refine At.xthen ?_
         refine At.xthen ?_
         refine At.xhere ?_
         refine At.inb ?_
         refine At.thenC ?_
         refine W.region env [] [] rfl rfl rfl (.cons (by unfold inI; have := hn2; (try unfold maxLen at this); omega) .nil) .nil (At.keep (ts := [0, 13, 14, 15]) (ids := []) rfl rfl ?_)
         refine At.thenK (At.keep (ts := [0, 13, 14, 15]) (ids := []) rfl rfl ?_)
         exact At.conv (.cons .q (.cons .q (.cons .qi (.cons .qi .nil)))) .nil (hK2 hi2 () H)
   · have H := H2 (by have := of_decide_eq_false hb3; omega)
     refine W.exit ?_
     refine At.xthen ?_
     refine At.xthen ?_
     refine At.xhere ?_
     refine At.thenC ?_
     refine W.seq ?_
     refine W.rg env [0, 53, 54] [] ?_
     refine W.block ?_
     refine At.keep (ts := [0, 53, 54]) (ids := []) rfl rfl ?_
     refine W.len (t := 0) rfl (fun (hn9 : p0.length ≤ maxLen) => ?_)
     refine W.rangeGo H (fun i9 (s9 : Unit) => [(0, roL 1 enc_ListRange p0), (53, .int .i64 (((p0.length : Nat) : Int))), (54, .int .i64 ((i9 : Int)))]) (fun i9 (s9 : Unit) => []) (.cons .q (.cons .qi (.cons .qi .nil))) .nil (fun k9 i9 s9 hle9 H1 H2 K0 hK9 => ?_)
     refine W.rg env [0, 53, 54, 55] [] ?_
     refine W.seq ?_
     refine W.cond rfl (fun hb10 => ?_) (fun hb10 => ?_)
     · have hi9 : i9 < p0.length := by have := of_decide_eq_true hb10; omega
       have H := H1 hi9
       refine W.skip ?_
       refine At.thenC ?_
       refine W.seq ?_
       refine W.block ?_
       refine W.rg env [0, 7, 53, 54] [] ?_
       refine W.rg env [0, 7, 53, 54, 58, 59] [] ?_
       refine W.block ?_
       refine At.keep (ts := [0, 7, 53, 54, 58, 59]) (ids := []) rfl rfl ?_
       refine W.len (t := 0) rfl (fun (hn11 : p0.length ≤ maxLen) => ?_)
       refine W.rangeGo H (fun i11 (s11 : Unit) => [(0, roL 1 enc_ListRange p0), (7, .int .i64 ((i9 : Int))), (53, .int .i64 (((p0.length : Nat) : Int))), (54, .int .i64 ((i9 : Int))), (58, .int .i64 (((p0.length : Nat) : Int))), (59, .int .i64 ((i11 : Int)))]) (fun i11 (s11 : Unit) => []) (.cons .q (.cons .qi (.cons .qi (.cons .qi (.cons .qi (.cons .qi .nil)))))) .nil (fun k11 i11 s11 hle11 H1 H2 K0 hK11 => ?_)
       refine W.rg env [0, 7, 53, 54, 58, 59, 60] [] ?_
       refine W.seq ?_
       refine W.cond rfl (fun hb12 => ?_) (fun hb12 => ?_)
       · have hi11 : i11 < p0.length := by have := of_decide_eq_true hb12; omega
         have H := H1 hi11
         refine W.skip ?_
         refine At.thenC ?_
         refine W.seq ?_
         refine W.block ?_
         refine W.rg env [0, 7, 8, 53, 54, 58, 59] [] ?_
         refine W.rg env [0, 7, 8, 53, 54, 58, 59, 63, 64] [] ?_
         refine W.block ?_
         refine At.keep (ts := [0, 7, 8, 53, 54, 58, 59, 63, 64]) (ids := []) rfl rfl ?_
         refine W.len (t := 0) rfl (fun (hn13 : p0.length ≤ maxLen) => ?_)
         refine W.rangeGo H (fun i13 (s13 : Unit) => [(0, roL 1 enc_ListRange p0), (7, .int .i64 ((i9 : Int))), (8, .int .i64 ((i11 : Int))), (53, .int .i64 (((p0.length : Nat) : Int))), (54, .int .i64 ((i9 : Int))), (58, .int .i64 (((p0.length : Nat) : Int))), (59, .int .i64 ((i11 : Int))), (63, .int .i64 (((p0.length : Nat) : Int))), (64, .int .i64 ((i13 : Int)))]) (fun i13 (s13 : Unit) => []) (.cons .q (.cons .qi (.cons .qi (.cons .qi (.cons .qi (.cons .qi (.cons .qi (.cons .qi (.cons .qi .nil))))))))) .nil (fun k13 i13 s13 hle13 H1 H2 K0 hK13 => ?_)
         refine W.rg env [0, 7, 8, 53, 54, 58, 59, 63, 64, 65] [] ?_
         refine W.seq ?_
         refine W.cond rfl (fun hb14 => ?_) (fun hb14 => ?_)
         · have hi13 : i13 < p0.length := by have := of_decide_eq_true hb14; omega
           have H := H1 hi13
           refine W.skip ?_
           refine At.thenC ?_
           refine W.seq ?_
           refine W.block ?_
           refine W.rg env [0, 7, 8, 9, 53, 54, 58, 59, 63, 64] [] ?_
           obtain ⟨hc15, H⟩ := of_must H
           obtain ⟨hc16, H⟩ := of_must H
           obtain ⟨hc17, H⟩ := of_must H
           obtain ⟨hc18, H⟩ := of_must H
           obtain ⟨hc19, H⟩ := of_must H
           obtain ⟨hc20, H⟩ := of_must H
           obtain ⟨hc21, H⟩ := of_must H
           obtain ⟨hc22, H⟩ := of_must H
           refine W.sr env [] [] [0, 7, 8, 53, 54, 58, 59, 63, 64, 120] [] rfl rfl (by first | rfl | kernel_rfl) (.cons (⟨by omega, by omega⟩ : 0 ≤ (i9 : Int) ∧ (i9 : Int) < ((p0.length : Nat) : Int)) (.cons hc15 (.cons (⟨by omega, by omega⟩ : 0 ≤ (i9 : Int) ∧ (i9 : Int) < ((p0.length : Nat) : Int)) (.cons hc16 (.cons (⟨by omega, by omega⟩ : 0 ≤ (i11 : Int) ∧ (i11 : Int) < ((p0.length : Nat) : Int)) (.cons hc17 (.cons hc18 (.cons (fun _ => (⟨by omega, by omega⟩ : 0 ≤ (i9 : Int) ∧ (i9 : Int) < ((p0.length : Nat) : Int))) (.cons (fun h => h) (.cons (fun h => h) (.cons (fun h => h) (.cons hc19 (.cons (fun h => h) (.cons (fun h => h) (.cons (fun h => h) (.cons (fun h => h) (.cons (fun _ => (⟨by omega, by omega⟩ : 0 ≤ (i9 : Int) ∧ (i9 : Int) < ((p0.length : Nat) : Int))) (.cons (fun h => h) (.cons (fun h => h) (.cons (fun h => h) (.cons hc20 (.cons (fun h => h) (.cons (fun h => h) (.cons (fun h => h) (.cons (fun h => h) (.cons (fun _ => (⟨by omega, by omega⟩ : 0 ≤ (i11 : Int) ∧ (i11 : Int) < ((p0.length : Nat) : Int))) (.cons (fun h => h) (.cons (fun h => h) (.cons (fun h => h) (.cons hc21 (.cons (fun h => h) (.cons (fun h => h) (.cons (fun h => h) (.cons (fun h => h) (.cons hc22 (.cons (fun h => h) (.cons (fun h => h) (.cons (fun h => h) (.cons (fun h => h) (.cons (fun h => by rw [h]; rfl) .nil)))))))))))))))))))))))))))))))))))))))) .nil ?_
           refine W.cond rfl (fun hb23 => ?_) (fun hb23 => ?_)
           · have H := of_true H hb23
             refine W.rg env [2] [] ?_
             refine W.ret ?_
             refine At.rinb ?_
             refine At.rthen ?_
             refine At.rthen ?_
             refine At.rinb ?_
             refine At.rinb ?_
             refine At.rthen ?_
             refine At.rthen ?_
             refine At.rinb ?_
             refine At.rinb ?_
             refine At.rthen ?_
             refine At.rthen ?_
             refine At.rinb ?_
             refine At.rthen ?_
             cases H
             exact At.ret env.ty rfl rfl (fun q hq => by cases hq) (.refl _) hval
           · have H := of_false H hb23
             refine W.skip ?_
             refine At.inb ?_
             refine At.thenC ?_
             refine W.region env [] [] rfl rfl rfl (.cons (by unfold inI; have := hn13; (try unfold maxLen at this); omega) .nil) .nil (At.keep (ts := [0, 7, 8, 53, 54, 58, 59, 63, 64]) (ids := []) rfl rfl ?_)
             refine At.thenK (At.keep (ts := [0, 7, 8, 53, 54, 58, 59, 63, 64]) (ids := []) rfl rfl ?_)
             exact At.conv (.cons .q (.cons .qi (.cons .qi (.cons .qi (.cons .qi (.cons .qi (.cons .qi (.cons .qi (.cons .qi .nil))))))))) .nil (hK13 hi13 () H)
         · have H := H2 (by have := of_decide_eq_false hb14; omega)
           refine W.exit ?_
           refine At.xthen ?_
           refine At.xthen ?_
           refine At.xhere ?_
           refine At.inb ?_
           refine At.thenC ?_
           refine W.region env [] [] rfl rfl rfl (.cons (by unfold inI; have := hn11; (try unfold maxLen at this); omega) .nil) .nil (At.keep (ts := [0, 7, 53, 54, 58, 59]) (ids := []) rfl rfl ?_)
           refine At.thenK (At.keep (ts := [0, 7, 53, 54, 58, 59]) (ids := []) rfl rfl ?_)
           exact At.conv (.cons .q (.cons .qi (.cons .qi (.cons .qi (.cons .qi (.cons .qi .nil)))))) .nil (hK11 hi11 () H)
       · have H := H2 (by have := of_decide_eq_false hb12; omega)
         refine W.exit ?_
         refine At.xthen ?_
         refine At.xthen ?_
         refine At.xhere ?_
         refine At.inb ?_
         refine At.thenC ?_
         refine W.region env [] [] rfl rfl rfl (.cons (by unfold inI; have := hn9; (try unfold maxLen at this); omega) .nil) .nil (At.keep (ts := [0, 53, 54]) (ids := []) rfl rfl ?_)
         refine At.thenK (At.keep (ts := [0, 53, 54]) (ids := []) rfl rfl ?_)
         exact At.conv (.cons .q (.cons .qi (.cons .qi .nil))) .nil (hK9 hi9 () H)
     · have H := H2 (by have := of_decide_eq_false hb10; omega)
       refine W.exit ?_
       refine At.xthen ?_
       refine At.xthen ?_
       refine At.xhere ?_
       refine At.thenC ?_
       refine W.rg env [2] [] ?_
       refine W.ret ?_
       cases H
       exact At.ret env.ty rfl rfl (fun q hq => by cases hq) (.refl _) hval
theorem c_crew_isMinute (p0 : Int) : Ctr Try.prog 82 [.int .i64 (p0)] (.bool ((crew_isMinute p0))) := by
 obtain ⟨r, H⟩ : ∃ r, crew_isMinute p0 = r := ⟨_, rfl⟩
 rw [H]
 unfold crew_isMinute at H
 refine Ctr.of_body (N := 5) Try.func82 (by kernel_rfl) (c := _) rfl Try.ntmps82 rfl (fun w0 h0 hval => ?_)
 refine W.rg env [0] [] ?_
 refine W.sr env [] [⟨.bool ((crew_in p0 0 1439)), [], 0, []⟩] [2] [] rfl rfl rfl .nil (.free (c_crew_in p0 0 1439) .nil) ?_
 refine W.ret ?_
 cases H
 exact At.ret env.ty rfl rfl (fun q hq => by cases hq) (.refl _) hval
theorem c_crew_CheckTask (p0 : Task) : Ctr Try.prog 56 [.agg [.int .i64 (p0.Lamp), .int .i64 (p0.Place), .int .i64 (p0.At), .int .i64 (p0.Serve)]] (.int .i64 ((crew_CheckTask p0))) := by
 obtain ⟨r, H⟩ : ∃ r, crew_CheckTask p0 = r := ⟨_, rfl⟩
 rw [H]
 unfold crew_CheckTask at H
 refine Ctr.of_body (N := 25) Try.func56 (by kernel_rfl) (c := _) rfl Try.ntmps56 rfl (fun w0 h0 hval => ?_)
 refine W.rg env [1] [1] ?_
 refine W.seq ?_
 refine W.sr env [] [⟨.bool ((crew_in p0.Lamp 1 999)), [], 0, []⟩, ⟨.bool ((crew_in p0.Place 0 11)), [], 0, []⟩, ⟨.bool ((crew_isMinute p0.At)), [], 0, []⟩, ⟨.bool ((crew_in p0.Serve 1 120)), [], 0, []⟩] [24] [] rfl rfl rfl (.cons (fun h => h) (.cons (fun h => h) (.cons (fun h => h) (.cons (fun h => by rw [h]; rfl) (.cons (fun h => h) (.cons (fun h => h) (.cons (fun h => h) (.cons (fun h => by rw [h]; rfl) (.cons (fun h => h) (.cons (fun h => h) (.cons (fun h => h) (.cons (fun h => by rw [h]; rfl) .nil)))))))))))) (.free (c_crew_in p0.Lamp 1 999) (.on (fun hW => c_crew_in p0.Place 0 11) (.on (fun hW => c_crew_isMinute p0.At) (.on (fun hW => c_crew_in p0.Serve 1 120) .nil)))) ?_
 refine W.cond rfl (fun hb1 => ?_) (fun hb1 => ?_)
 · have H := of_true H hb1
   refine W.rg env [2] [] ?_
   refine W.ret ?_
   refine At.rthen ?_
   cases H
   exact At.ret env.ty rfl rfl (fun q hq => by cases hq) (.refl _) hval
 · have H := of_false H hb1
   refine W.skip ?_
   refine At.thenC ?_
   refine W.rg env [2] [] ?_
   refine W.ret ?_
   cases H
   exact At.ret env.ty rfl rfl (fun q hq => by cases hq) (.refl _) hval
theorem c_crew_CheckHand (p0 : Hand) : Ctr Try.prog 57 [.agg [.int .i64 (p0.Id), .int .i64 (p0.From), .int .i64 (p0.To)]] (.int .i64 ((crew_CheckHand p0))) := by
 obtain ⟨r, H⟩ : ∃ r, crew_CheckHand p0 = r := ⟨_, rfl⟩
 rw [H]
 unfold crew_CheckHand at H
 refine Ctr.of_body (N := 21) Try.func57 (by kernel_rfl) (c := _) rfl Try.ntmps57 rfl (fun w0 h0 hval => ?_)
 refine W.rg env [1] [1] ?_
 refine W.seq ?_
 refine W.sr env [] [⟨.bool ((crew_in p0.Id 1 99)), [], 0, []⟩, ⟨.bool ((crew_isMinute p0.From)), [], 0, []⟩, ⟨.bool ((crew_in p0.To p0.From 1439)), [], 0, []⟩] [20] [] rfl rfl rfl (.cons (fun h => h) (.cons (fun h => h) (.cons (fun h => h) (.cons (fun h => by rw [h]; rfl) (.cons (fun h => h) (.cons (fun h => h) (.cons (fun h => h) (.cons (fun h => h) (.cons (fun h => h) (.cons (fun h => by rw [h]; rfl) .nil)))))))))) (.free (c_crew_in p0.Id 1 99) (.on (fun hW => c_crew_isMinute p0.From) (.on (fun hW => c_crew_in p0.To p0.From 1439) .nil))) ?_
 refine W.cond rfl (fun hb1 => ?_) (fun hb1 => ?_)
 · have H := of_true H hb1
   refine W.rg env [2] [] ?_
   refine W.ret ?_
   refine At.rthen ?_
   cases H
   exact At.ret env.ty rfl rfl (fun q hq => by cases hq) (.refl _) hval
 · have H := of_false H hb1
   refine W.skip ?_
   refine At.thenC ?_
   refine W.rg env [2] [] ?_
   refine W.ret ?_
   cases H
   exact At.ret env.ty rfl rfl (fun q hq => by cases hq) (.refl _) hval
theorem c_crew_Check (p0 : Crew) {r : Int} (H : crew_Check p0 = some r) : Ctr Try.prog 16 [.agg [roL 4 enc_Task p0.Tasks, roL 1 enc_ListRange p0.Travel, roL 3 enc_Hand p0.Hands]] (.int .i64 (r)) := by
 unfold crew_Check at H
 refine Ctr.of_body (N := 87) Try.func16 (by kernel_rfl) (c := _) rfl Try.ntmps16 rfl (fun w0 h0 hval => ?_)
 refine W.rg env [1] [1] ?_
 refine W.seq ?_
 refine W.seq ?_
 obtain ⟨y1, hy2, H⟩ := of_bindO H
 refine W.region env [] [⟨.bool (y1), [], 0, []⟩] rfl rfl rfl (.cons (fun h => h) (.cons (fun h => h) (.cons (fun h => h) (.cons (fun h => by rw [h]; rfl) (.cons (fun h => h) (.cons (fun h => h) (.cons (fun h => h) (.cons (fun h => by rw [h]; rfl) .nil)))))))) (.on (fun hW => c_crew_isTravel p0.Travel (of_true hy2 hW)) .nil) (At.keep (ts := [1, 22]) (ids := [1]) rfl rfl ?_)
 refine At.thenC ?_
 refine W.cond rfl (fun hb3 => ?_) (fun hb3 => ?_)
 · have H := of_true H hb3
   refine W.rg env [2] [] ?_
   refine W.ret ?_
   refine At.rthen ?_
   cases H
   exact At.ret env.ty rfl rfl (fun q hq => by cases hq) (.refl _) hval
 · have H := of_false H hb3
   refine W.skip ?_
   refine At.thenC ?_
   refine W.seq ?_
   refine W.rg env [1, 24, 25, 26] [1] ?_
   refine W.block ?_
   refine At.keep (ts := [1, 24, 25, 26]) (ids := [1]) rfl rfl ?_
   refine W.len (t := 24) rfl (fun (hn4 : p0.Tasks.length ≤ maxLen) => ?_)
   refine W.rangeGo H (fun i4 (s4 : Unit) => [(1, .lp 1 0), (24, roL 4 enc_Task p0.Tasks), (25, .int .i64 (((p0.Tasks.length : Nat) : Int))), (26, .int .i64 ((i4 : Int)))]) (fun i4 (s4 : Unit) => [(1, .cells [roL 4 enc_Task p0.Tasks, roL 1 enc_ListRange p0.Travel, roL 3 enc_Hand p0.Hands])]) (.cons .q (.cons .q (.cons .qi (.cons .qi .nil)))) (.cons .q .nil) (fun k4 i4 s4 hle4 H1 H2 K0 hK4 => ?_)
   refine W.rg env [1, 24, 25, 26, 27] [1] ?_
   refine W.seq ?_
   refine W.cond rfl (fun hb5 => ?_) (fun hb5 => ?_)
   · have hi4 : i4 < p0.Tasks.length := by have := of_decide_eq_true hb5; omega
     have H := H1 hi4
     refine W.skip ?_
     refine At.thenC ?_
     refine W.seq ?_
     refine W.block ?_
     refine W.sr env [] [] [1, 3, 4, 24, 25, 26] [1, 4] rfl rfl rfl (.cons (⟨by omega, by omega⟩ : 0 ≤ (i4 : Int) ∧ (i4 : Int) < ((p0.Tasks.length : Nat) : Int)) .nil) .nil ?_
     obtain ⟨hc6, H⟩ := of_must H
     obtain ⟨hc7, H⟩ := of_must H
     refine W.sr env [] [⟨.int .i64 ((crew_CheckTask (p0.Tasks.getD i4 default))), [], 0, []⟩] [1, 24, 25, 26, 57] [1] rfl rfl (by kernel_rfl) (.cons (fun h => h) (.cons (fun h => h) (.cons (fun h => h) (.cons (fun h => h) (.cons (fun h => h) (.cons (fun h => by rw [h]; rfl) (.cons (fun h => h) (.cons (fun h => h) (.cons (fun h => h) (.cons hc6 (.cons (fun h => h) (.cons hc7 (.cons (fun h => h) (.cons (fun h => h) (.cons (fun h => h) (.cons (fun h => h) (.cons (fun h => h) (.cons (fun h => h) (.cons (fun h => h) (.cons (fun h => h) (.cons (fun hW h => by revert hW h; first | (simp +contextual; done) | grind) (.cons (fun h => by rw [h]; rfl) .nil)))))))))))))))))))))) (.free (c_crew_CheckTask (p0.Tasks.getD i4 default)) .nil) ?_
     refine W.cond rfl (fun hb8 => ?_) (fun hb8 => ?_)
     · have H := of_true H hb8
       refine W.rg env [2] [] ?_
       refine W.ret ?_
       refine At.rinb ?_
       refine At.rthen ?_
       refine At.rthen ?_
       refine At.rinb ?_
       refine At.rthen ?_
       cases H
       exact At.ret env.ty rfl rfl (fun q hq => by cases hq) (.refl _) hval
     · have H := of_false H hb8
       refine W.skip ?_
       refine At.inb ?_
       refine At.thenC ?_
       refine W.region env [] [] rfl rfl rfl (.cons (by unfold inI; have := hn4; (try unfold maxLen at this); omega) .nil) .nil (At.keep (ts := [1, 24, 25, 26]) (ids := [1]) rfl rfl ?_)
       refine At.thenK (At.keep (ts := [1, 24, 25, 26]) (ids := [1]) rfl rfl ?_)
       exact At.conv (.cons .q (.cons .q (.cons .qi (.cons .qi .nil)))) (.cons .q .nil) (hK4 hi4 () H)
   · have H := H2 (by have := of_decide_eq_false hb5; omega)
     refine W.exit ?_
     refine At.xthen ?_
     refine At.xthen ?_
     refine At.xhere ?_
     refine At.thenC ?_
     refine W.seq ?_
     refine W.rg env [1, 60, 61, 62] [1] ?_
     refine W.block ?_
     refine At.keep (ts := [1, 60, 61, 62]) (ids := [1]) rfl rfl ?_
     refine W.len (t := 60) rfl (fun (hn9 : p0.Hands.length ≤ maxLen) => ?_)
     refine W.rangeGo H (fun i9 (s9 : Unit) => [(1, .lp 1 0), (60, roL 3 enc_Hand p0.Hands), (61, .int .i64 (((p0.Hands.length : Nat) : Int))), (62, .int .i64 ((i9 : Int)))]) (fun i9 (s9 : Unit) => [(1, .cells [roL 4 enc_Task p0.Tasks, roL 1 enc_ListRange p0.Travel, roL 3 enc_Hand p0.Hands])]) (.cons .q (.cons .q (.cons .qi (.cons .qi .nil)))) (.cons .q .nil) (fun k9 i9 s9 hle9 H1 H2 K0 hK9 => ?_)
     refine W.rg env [1, 60, 61, 62, 63] [1] ?_
     refine W.seq ?_
     refine W.cond rfl (fun hb10 => ?_) (fun hb10 => ?_)
     · have hi9 : i9 < p0.Hands.length := by have := of_decide_eq_true hb10; omega
       have H := H1 hi9
       refine W.skip ?_
       refine At.thenC ?_
       refine W.seq ?_
       refine W.block ?_
       refine W.sr env [] [] [1, 5, 6, 60, 61, 62] [1, 6] rfl rfl rfl (.cons (⟨by omega, by omega⟩ : 0 ≤ (i9 : Int) ∧ (i9 : Int) < ((p0.Hands.length : Nat) : Int)) .nil) .nil ?_
       obtain ⟨hc11, H⟩ := of_must H
       obtain ⟨hc12, H⟩ := of_must H
       refine W.sr env [] [⟨.int .i64 ((crew_CheckHand (p0.Hands.getD i9 default))), [], 0, []⟩] [1, 60, 61, 62, 85] [1] rfl rfl (by kernel_rfl) (.cons (fun h => h) (.cons (fun h => h) (.cons (fun h => h) (.cons hc11 (.cons (fun h => h) (.cons hc12 (.cons (fun h => h) (.cons (fun h => h) (.cons (fun h => h) (.cons (fun h => h) (.cons (fun h => h) (.cons (fun h => h) (.cons (fun h => h) (.cons (fun h => h) (.cons (fun hW h => by revert hW h; first | (simp +contextual; done) | grind) (.cons (fun h => by rw [h]; rfl) .nil)))))))))))))))) (.free (c_crew_CheckHand (p0.Hands.getD i9 default)) .nil) ?_
       refine W.cond rfl (fun hb13 => ?_) (fun hb13 => ?_)
       · have H := of_true H hb13
         refine W.rg env [2] [] ?_
         refine W.ret ?_
         refine At.rinb ?_
         refine At.rthen ?_
         refine At.rthen ?_
         refine At.rinb ?_
         refine At.rthen ?_
         cases H
         exact At.ret env.ty rfl rfl (fun q hq => by cases hq) (.refl _) hval
       · have H := of_false H hb13
         refine W.skip ?_
         refine At.inb ?_
         refine At.thenC ?_
         refine W.region env [] [] rfl rfl rfl (.cons (by unfold inI; have := hn9; (try unfold maxLen at this); omega) .nil) .nil (At.keep (ts := [1, 60, 61, 62]) (ids := [1]) rfl rfl ?_)
         refine At.thenK (At.keep (ts := [1, 60, 61, 62]) (ids := [1]) rfl rfl ?_)
         exact At.conv (.cons .q (.cons .q (.cons .qi (.cons .qi .nil)))) (.cons .q .nil) (hK9 hi9 () H)
     · have H := H2 (by have := of_decide_eq_false hb10; omega)
       refine W.exit ?_
       refine At.xthen ?_
       refine At.xthen ?_
       refine At.xhere ?_
       refine At.thenC ?_
       refine W.rg env [2] [] ?_
       refine W.ret ?_
       cases H
       exact At.ret env.ty rfl rfl (fun q hq => by cases hq) (.refl _) hval
theorem c_gasolierlaw04_team  : Ctr Try.prog 51 [] (.agg [roL 4 enc_Task ((gasolierlaw04_team).Tasks), roL 1 enc_ListRange ((gasolierlaw04_team).Travel), roL 3 enc_Hand ((gasolierlaw04_team).Hands)]) := by
 obtain ⟨r, H⟩ : ∃ r, gasolierlaw04_team = r := ⟨_, rfl⟩
 rw [H]
 unfold gasolierlaw04_team at H
 refine Ctr.of_body (N := 17) Try.func51 (by kernel_rfl) (c := _) rfl Try.ntmps51 rfl (fun w0 h0 hval => ?_)
 refine W.rg env [0] [0] ?_
 refine W.rg env [0] [0] ?_
 refine W.ret ?_
 cases H
 exact At.ret env.ty rfl rfl (fun q hq => by cases hq) (Sim.aggL (.cons (Sim.lit (f := enc_Task) ([(⟨1, 0, 300, 2⟩ : Task), (⟨2, 1, 320, 2⟩ : Task), (⟨3, 0, 325, 2⟩ : Task), (⟨4, 1, 350, 2⟩ : Task)] : List Task) rfl rfl (fun _ => rfl)) (.cons (Sim.lit2 (f := enc_ListRange) ([([(⟨0, 0⟩ : Range), (⟨10, 20⟩ : Range)] : List Range), ([(⟨10, 20⟩ : Range), (⟨0, 0⟩ : Range)] : List Range)] : List (List Range)) (.cons (Sim.lit (f := enc_Range) ([(⟨0, 0⟩ : Range), (⟨10, 20⟩ : Range)] : List Range) rfl rfl (fun _ => rfl)) (.cons (Sim.lit (f := enc_Range) ([(⟨10, 20⟩ : Range), (⟨0, 0⟩ : Range)] : List Range) rfl rfl (fun _ => rfl)) .nil)) rfl rfl (fun _ => rfl)) (.cons (Sim.lit (f := enc_Hand) ([(⟨7, 290, 400⟩ : Hand), (⟨8, 310, 330⟩ : Hand)] : List Hand) rfl rfl (fun _ => rfl)) .nil)))) hval
theorem c_crew_spare (p0 : Crew) (p1 : Int) (p2 : Int) (p3 : Range → Option Int) (p3_g : Nat) (p3_a p3_b : List AV) (p3_h : ∀ x0 r, p3 x0 = some r → Ctr Try.prog p3_g (p3_a ++ ([.agg [.int .i64 (x0.Lo), .int .i64 (x0.Hi)]] ++ p3_b)) (.int .i64 (r))) {r : Int} (H : crew_spare p0 p1 p2 p3 = some r) : Ctr Try.prog 45 [.agg [roL 4 enc_Task p0.Tasks, roL 1 enc_ListRange p0.Travel, roL 3 enc_Hand p0.Hands], .int .i64 (p1), .int .i64 (p2), .clo (.func p3_g) p3_a p3_b] (.int .i64 (r)) := by
 unfold crew_spare at H
 refine Ctr.of_body (N := 42) Try.func45 (by kernel_rfl) (c := _) rfl Try.ntmps45 rfl (fun w0 h0 hval => ?_)
 refine W.rg env [1, 2, 3, 4] [4] ?_
 obtain ⟨hc1, H⟩ := of_must H
 obtain ⟨hc2, H⟩ := of_must H
 refine W.sr env [] [] [3, 4, 9, 10] [4, 9, 10] rfl rfl (by first | rfl | kernel_rfl) (.cons hc1 (.cons hc2 .nil)) .nil ?_
 refine W.seq ?_
 obtain ⟨hc3, H⟩ := of_must H
 obtain ⟨hc4, H⟩ := of_must H
 obtain ⟨hc5, H⟩ := of_must H
 obtain ⟨hc6, H⟩ := of_must H
 obtain ⟨y7, hy8, H⟩ := of_bindO H
 obtain ⟨hc9, H⟩ := of_must H
 refine W.region env [] [⟨.int .i64 (y7), [], 0, []⟩] rfl rfl (by kernel_rfl) (.cons hc3 (.cons hc4 (.cons hc5 (.cons hc6 (.cons hc9 .nil))))) (.free (p3_h ((p0.Travel.getD ((p0.Tasks.getD (p1).toNat default).Place).toNat default).getD ((p0.Tasks.getD (p2).toNat default).Place).toNat default) _ hy8) .nil) (At.keep (ts := [8]) (ids := []) rfl rfl ?_)
 refine At.thenC ?_
 refine W.ret ?_
 cases H
 exact At.ret env.ty rfl rfl (fun q hq => by cases hq) (.refl _) hval
theorem c_crew_least (p0 : Range) : Ctr Try.prog 63 [.agg [.int .i64 (p0.Lo), .int .i64 (p0.Hi)]] (.int .i64 ((crew_least p0))) := by
 obtain ⟨r, H⟩ : ∃ r, crew_least p0 = r := ⟨_, rfl⟩
 rw [H]
 unfold crew_least at H
 refine Ctr.of_body (N := 5) Try.func63 (by kernel_rfl) (c := _) rfl Try.ntmps63 rfl (fun w0 h0 hval => ?_)
 refine W.rg env [1] [1] ?_
 refine W.rg env [2] [] ?_
 refine W.ret ?_
 cases H
 exact At.ret env.ty rfl rfl (fun q hq => by cases hq) (.refl _) hval
theorem c_crew_most (p0 : Range) : Ctr Try.prog 46 [.agg [.int .i64 (p0.Lo), .int .i64 (p0.Hi)]] (.int .i64 ((crew_most p0))) := by
 obtain ⟨r, H⟩ : ∃ r, crew_most p0 = r := ⟨_, rfl⟩
 rw [H]
 unfold crew_most at H
 refine Ctr.of_body (N := 5) Try.func46 (by kernel_rfl) (c := _) rfl Try.ntmps46 rfl (fun w0 h0 hval => ?_)
 refine W.rg env [1] [1] ?_
 refine W.rg env [2] [] ?_
 refine W.ret ?_
 cases H
 exact At.ret env.ty rfl rfl (fun q hq => by cases hq) (.refl _) hval
theorem c_crew_Follows (p0 : Crew) (p1 : Int) (p2 : Int) {r : (Int × Int)} (H : crew_Follows p0 p1 p2 = some r) : Ctr Try.prog 20 [.agg [roL 4 enc_Task p0.Tasks, roL 1 enc_ListRange p0.Travel, roL 3 enc_Hand p0.Hands], .int .i64 (p1), .int .i64 (p2)] (.tup [.int .i64 (r.1), .int .i64 (r.2)]) := by
 unfold crew_Follows at H
 refine Ctr.of_body (N := 49) Try.func20 (by kernel_rfl) (c := _) rfl Try.ntmps20 rfl (fun w0 h0 hval => ?_)
 refine W.rg env [1, 2, 3] [3] ?_
 refine W.seq ?_
 obtain ⟨y1, hy2, H⟩ := of_bindO H
 refine W.region env [] [⟨.int .i64 (y1), [], 0, []⟩] rfl rfl rfl .nil (.free (c_crew_Check p0 hy2) .nil) (At.keep (ts := [1, 2, 3, 8]) (ids := [3]) rfl rfl ?_)
 refine At.thenC ?_
 refine W.seq ?_
 refine W.block ?_
 refine W.rg env [1, 2, 3, 8, 11] [3] ?_
 refine W.cond rfl (fun hb3 => ?_) (fun hb3 => ?_)
 · have H := of_true H hb3
   refine W.rg env [6, 7] [] ?_
   refine W.ret ?_
   refine At.rinb ?_
   refine At.rthen ?_
   cases H
   exact At.ret env.ty rfl rfl (fun q hq => by cases hq) (.refl _) hval
 · have H := of_false H hb3
   obtain ⟨hc4, H⟩ := of_must H
   obtain ⟨hc5, H⟩ := of_must H
   refine W.sr env [] [⟨.bool ((crew_in p1 0 (((p0.Tasks.length : Nat) : Int) - 1))), [], 0, []⟩, ⟨.bool ((crew_in p2 0 (((p0.Tasks.length : Nat) : Int) - 1))), [], 0, []⟩] [1, 2, 3, 15] [3] rfl rfl rfl (.cons hc4 (.cons (fun h => h) (.cons (fun h => h) (.cons hc5 (.cons (fun h => h) (.cons (fun h => h) (.cons (fun h => h) (.cons (fun h => h) (.cons (fun h => by rw [h]; rfl) .nil))))))))) (.free (c_crew_in p1 0 (((p0.Tasks.length : Nat) : Int) - 1)) (.on (fun hW => c_crew_in p2 0 (((p0.Tasks.length : Nat) : Int) - 1)) .nil)) ?_
   refine W.cond rfl (fun hb6 => ?_) (fun hb6 => ?_)
   · have H := of_true H hb6
     refine W.rg env [6, 7] [] ?_
     refine W.ret ?_
     refine At.rinb ?_
     refine At.rthen ?_
     cases H
     exact At.ret env.ty rfl rfl (fun q hq => by cases hq) (.refl _) hval
   · have H := of_false H hb6
     refine W.seq ?_
     obtain ⟨y7, hy8, H⟩ := of_bindO H
     refine W.region env [] [⟨.int .i64 (y7), [], 0, []⟩] rfl rfl rfl (.cons (fun h => h) (.cons (fun h => h) (.cons (fun h => h) (.cons (fun h => h) (.cons (fun h => by rw [h]; rfl) .nil))))) (.on (fun hW => c_crew_spare p0 p1 p2 (fun x0 => some (crew_least x0)) 63 [] [] (fun x0 r h => by cases h; exact c_crew_least x0) (of_true hy8 hW)) .nil) (At.keep (ts := [1, 2, 3, 32]) (ids := [3]) rfl rfl ?_)
     refine At.thenC ?_
     refine W.cond rfl (fun hb9 => ?_) (fun hb9 => ?_)
     · have H := of_true H hb9
       refine W.rg env [6, 7] [] ?_
       refine W.ret ?_
       refine At.rinb ?_
       refine At.rthen ?_
       cases H
       exact At.ret env.ty rfl rfl (fun q hq => by cases hq) (.refl _) hval
     · have H := of_false H hb9
       refine W.seq ?_
       obtain ⟨y10, hy11, H⟩ := of_bindO H
       refine W.region env [] [⟨.int .i64 (y10), [], 0, []⟩] rfl rfl rfl .nil (.free (c_crew_spare p0 p1 p2 (fun x0 => some (crew_most x0)) 46 [] [] (fun x0 r h => by cases h; exact c_crew_most x0) hy11) .nil) (At.keep (ts := [43]) (ids := []) rfl rfl ?_)
       refine At.thenC ?_
       refine W.cond rfl (fun hb12 => ?_) (fun hb12 => ?_)
       · have H := of_true H hb12
         refine W.rg env [6, 7] [] ?_
         refine W.ret ?_
         refine At.rinb ?_
         refine At.rthen ?_
         cases H
         exact At.ret env.ty rfl rfl (fun q hq => by cases hq) (.refl _) hval
       · have H := of_false H hb12
         refine W.skip ?_
         refine At.inb ?_
         refine At.thenC ?_
         refine W.rg env [6, 7] [] ?_
         refine W.ret ?_
         cases H
         exact At.ret env.ty rfl rfl (fun q hq => by cases hq) (.refl _) hval
theorem c_crew_newPlan (p0 : Crew) (p1 : Range → Option Int) (p1_g : Nat) (p1_a p1_b : List AV) (p1_h : ∀ x0 r, p1 x0 = some r → Ctr Try.prog p1_g (p1_a ++ ([.agg [.int .i64 (x0.Lo), .int .i64 (x0.Hi)]] ++ p1_b)) (.int .i64 (r))) {r : (Option crew_plan)} (H : crew_newPlan p0 p1 = some r) : Ctr Try.prog 58 [.agg [roL 4 enc_Task p0.Tasks, roL 1 enc_ListRange p0.Travel, roL 3 enc_Hand p0.Hands], .clo (.func p1_g) p1_a p1_b] (.po r.isSome [roL 4 enc_Task ((r.getD default).Crew.Tasks), roL 1 enc_ListRange ((r.getD default).Crew.Travel), roL 3 enc_Hand ((r.getD default).Crew.Hands), roL 1 enc_Int ((r.getD default).next)]) := by
 unfold crew_newPlan at H
 refine Ctr.of_body (N := 52) Try.func58 (by kernel_rfl) (c := _) rfl Try.ntmps58 rfl (fun w0 h0 hval => ?_)
 refine W.rg env [1, 2] [2] ?_
 refine W.seq ?_
 obtain ⟨hc1, H⟩ := of_must H
 refine W.region env [] [] rfl rfl (by first | rfl | kernel_rfl) (.cons hc1 .nil) .nil (At.keep (ts := [1, 2, 5]) (ids := [2, 12, 14]) rfl rfl ?_)
 refine At.convM (.cons (.refl _) (.cons (y := bufL 3 1 enc_Int (List.replicate (((p0.Tasks.length : Nat) : Int)).toNat (0 : Int))) (BSim.seg (Seg.made (f := enc_Int) 0 rfl)) (.cons (.refl _) .nil))) ?_
 refine At.thenC ?_
 refine W.seq ?_
 refine W.rg env [1, 2, 5, 17, 18] [2, 12, 14] ?_
 refine W.block ?_
 refine At.keep (ts := [1, 2, 5, 17, 18]) (ids := [2, 12, 14]) rfl rfl ?_
 obtain ⟨hn2, H⟩ := of_must H
 refine W.rangeGo H (fun i2 (s2 : (List Int)) => [(1, .clo (.func p1_g) p1_a p1_b), (2, .lp 2 0), (5, .lp 14 0), (17, .int .i64 (((p0.Tasks.length : Nat) : Int))), (18, .int .i64 ((i2 : Int)))]) (fun i2 (s2 : (List Int)) => [(2, .cells [roL 4 enc_Task p0.Tasks, roL 1 enc_ListRange p0.Travel, roL 3 enc_Hand p0.Hands]), (12, bufL 3 1 enc_Int s2), (14, .cells [roL 4 enc_Task p0.Tasks, roL 1 enc_ListRange p0.Travel, roL 3 enc_Hand p0.Hands, .buf 12 (s2).length])]) (.cons .q (.cons .q (.cons .q (.cons .qi (.cons .qi .nil))))) (.cons .q (.cons .q (.cons (BSim.cells (.cons .q (.cons .q (.cons .q (.cons .qc .nil))))) .nil))) (fun k2 i2 s2 hle2 H1 H2 K0 hK2 => ?_)
 refine W.rg env [1, 2, 5, 17, 18, 19] [2, 12, 14] ?_
 refine W.seq ?_
 refine W.cond rfl (fun hb3 => ?_) (fun hb3 => ?_)
 · have hi2 : i2 < p0.Tasks.length := by have := of_decide_eq_true hb3; omega
   have H := H1 hi2
   refine W.skip ?_
   refine At.thenC ?_
   refine W.seq ?_
   refine W.block ?_
   refine W.rg env [1, 2, 5, 6, 17, 18] [2, 12, 14] ?_
   refine W.rg env [1, 2, 5, 6, 17, 18, 23, 24] [2, 12, 14] ?_
   refine W.block ?_
   refine At.keep (ts := [1, 2, 5, 6, 17, 18, 23, 24]) (ids := [2, 12, 14]) rfl rfl ?_
   obtain ⟨hn4, H⟩ := of_must H
   refine W.rangeGo H (fun i4 (s4 : (List Int)) => [(1, .clo (.func p1_g) p1_a p1_b), (2, .lp 2 0), (5, .lp 14 0), (6, .int .i64 ((i2 : Int))), (17, .int .i64 (((p0.Tasks.length : Nat) : Int))), (18, .int .i64 ((i2 : Int))), (23, .int .i64 (((p0.Tasks.length : Nat) : Int))), (24, .int .i64 ((i4 : Int)))]) (fun i4 (s4 : (List Int)) => [(2, .cells [roL 4 enc_Task p0.Tasks, roL 1 enc_ListRange p0.Travel, roL 3 enc_Hand p0.Hands]), (12, bufL 3 1 enc_Int s4), (14, .cells [roL 4 enc_Task p0.Tasks, roL 1 enc_ListRange p0.Travel, roL 3 enc_Hand p0.Hands, .buf 12 (s4).length])]) (.cons .q (.cons .q (.cons .q (.cons .qi (.cons .qi (.cons .qi (.cons .qi (.cons .qi .nil)))))))) (.cons .q (.cons .q (.cons (BSim.cells (.cons .q (.cons .q (.cons .q (.cons .qc .nil))))) .nil))) (fun k4 i4 s4 hle4 H1 H2 K0 hK4 => ?_)
   refine W.rg env [1, 2, 5, 6, 17, 18, 23, 24, 25] [2, 12, 14] ?_
   refine W.seq ?_
   refine W.cond rfl (fun hb5 => ?_) (fun hb5 => ?_)
   · have hi4 : i4 < p0.Tasks.length := by have := of_decide_eq_true hb5; omega
     have H := H1 hi4
     refine W.skip ?_
     refine At.thenC ?_
     refine W.seq ?_
     refine W.block ?_
     refine W.rg env [1, 2, 5, 6, 7, 17, 18, 23, 24] [2, 12, 14] ?_
     refine W.seq ?_
     obtain ⟨y6, hy7, H⟩ := of_bindO H
     refine W.region env [] [⟨.int .i64 (y6), [], 0, []⟩] rfl rfl rfl (.cons (fun h => h) (.cons (fun h => h) (.cons (fun h => h) (.cons (fun h => h) (.cons (fun h => h) (.cons (fun h => h) .nil)))))) (.on (fun hW => c_crew_spare p0 (i2 : Int) (i4 : Int) p1 p1_g p1_a p1_b p1_h (of_true hy7 hW)) .nil) (At.keep (ts := [1, 2, 5, 6, 7, 17, 18, 23, 24, 37]) (ids := [2, 12, 14]) rfl rfl ?_)
     refine At.thenC ?_
     refine W.cond rfl (fun hb8 => ?_) (fun hb8 => ?_)
     · have H := of_true H hb8
       obtain ⟨hc9, H⟩ := of_must H
       obtain ⟨hc10, H⟩ := of_must H
       obtain ⟨hc11, H⟩ := of_must H
       obtain ⟨hc12, H⟩ := of_must H
       refine W.region env [] [] rfl rfl (by first | rfl | kernel_rfl) (.cons (⟨by first | rfl | (simp; done) | omega | (simp; omega), hc9⟩) (.cons (⟨by first | rfl | (simp; done) | omega | (simp; omega), (by have := hc9; first | omega | (simp only [List.length_set]; omega) | (simp only [Int.toNat_natCast] at *; omega) | (simp at this ⊢; omega))⟩) (.cons hc10 (.cons hc11 (.cons (⟨by first | rfl | (simp; done) | omega | (simp; omega), hc12⟩) (.cons (⟨by first | rfl | (simp; done) | omega | (simp; omega), (by have := hc12; first | omega | (simp only [List.length_set]; omega) | (simp only [Int.toNat_natCast] at *; omega) | (simp at this ⊢; omega))⟩) .nil)))))) .nil (At.keep (ts := [1, 2, 5, 6, 17, 18, 23, 24]) (ids := [2, 12, 14]) rfl rfl ?_)
       refine At.convM (.cons (.refl _) (.cons (y := bufL 3 1 enc_Int (s4.set i2 ((((s4.getD i2 default) : Int).toNat ||| (((1 : Int) * 2 ^ ((i4 : Int) : Int).toNat) : Int).toNat : Nat) : Int))) (BSim.seg (Seg.set (Seg.refl enc_Int _) ((((s4.getD i2 default) : Int).toNat ||| (((1 : Int) * 2 ^ ((i4 : Int) : Int).toNat) : Int).toNat : Nat) : Int) rfl)) (.cons (.refl _) .nil))) ?_
       refine At.inb ?_
       refine At.thenC ?_
       refine W.region env [] [] rfl rfl rfl (.cons (by unfold inI; have := hn4; (try unfold maxLen at this); omega) .nil) .nil (At.keep (ts := [1, 2, 5, 6, 17, 18, 23, 24]) (ids := [2, 12, 14]) rfl rfl ?_)
       refine At.thenK (At.keep (ts := [1, 2, 5, 6, 17, 18, 23, 24]) (ids := [2, 12, 14]) rfl rfl ?_)
       exact At.conv (.cons .q (.cons .q (.cons .q (.cons .qi (.cons .qi (.cons .qi (.cons .qi (.cons .qi .nil)))))))) (.cons .q (.cons .q (.cons (BSim.cells (.cons .q (.cons .q (.cons .q (.cons .qc .nil))))) .nil))) (hK4 hi4 (s4.set i2 ((((s4.getD i2 default) : Int).toNat ||| (((1 : Int) * 2 ^ ((i4 : Int) : Int).toNat) : Int).toNat : Nat) : Int)) H)
     · have H := of_false H hb8
       refine W.skip ?_
       refine At.inb ?_
       refine At.thenC ?_
       refine W.region env [] [] rfl rfl rfl (.cons (by unfold inI; have := hn4; (try unfold maxLen at this); omega) .nil) .nil (At.keep (ts := [1, 2, 5, 6, 17, 18, 23, 24]) (ids := [2, 12, 14]) rfl rfl ?_)
       refine At.thenK (At.keep (ts := [1, 2, 5, 6, 17, 18, 23, 24]) (ids := [2, 12, 14]) rfl rfl ?_)
       exact At.conv (.cons .q (.cons .q (.cons .q (.cons .qi (.cons .qi (.cons .qi (.cons .qi (.cons .qi .nil)))))))) (.cons .q (.cons .q (.cons (BSim.cells (.cons .q (.cons .q (.cons .q (.cons .qc .nil))))) .nil))) (hK4 hi4 s4 H)
   · have H := H2 (by have := of_decide_eq_false hb5; omega)
     refine W.exit ?_
     refine At.xthen ?_
     refine At.xthen ?_
     refine At.xhere ?_
     refine At.inb ?_
     refine At.thenC ?_
     refine W.region env [] [] rfl rfl rfl (.cons (by unfold inI; have := hn2; (try unfold maxLen at this); omega) .nil) .nil (At.keep (ts := [1, 2, 5, 17, 18]) (ids := [2, 12, 14]) rfl rfl ?_)
     refine At.thenK (At.keep (ts := [1, 2, 5, 17, 18]) (ids := [2, 12, 14]) rfl rfl ?_)
     exact At.conv (.cons .q (.cons .q (.cons .q (.cons .qi (.cons .qi .nil))))) (.cons .q (.cons .q (.cons (BSim.cells (.cons .q (.cons .q (.cons .q (.cons .qc .nil))))) .nil))) (hK2 hi2 s4 H)
 · have H := H2 (by have := of_decide_eq_false hb3; omega)
   refine W.exit ?_
   refine At.xthen ?_
   refine At.xthen ?_
   refine At.xhere ?_
   refine At.thenC ?_
   refine W.rg env [4] [12, 14] ?_
   refine W.ret ?_
   cases H
   exact At.ret env.ty rfl rfl (fun q hq => by cases hq; exact (by first | rfl | (simp; done) | omega | (simp; omega))) (Sim.po_rp rfl (.cons (.refl _) (.cons (.refl _) (.cons (.refl _) (.cons (.refl _) .nil))))) hval
theorem c_crew_plan__followers (p0 : crew_plan) (p1 : Int) : Ctr Try.prog 69 [.rp [roL 4 enc_Task p0.Crew.Tasks, roL 1 enc_ListRange p0.Crew.Travel, roL 3 enc_Hand p0.Crew.Hands, roL 1 enc_Int p0.next], .int .i64 (p1)] (.clo (.func 98) [] [.rp [.rp [roL 4 enc_Task p0.Crew.Tasks, roL 1 enc_ListRange p0.Crew.Travel, roL 3 enc_Hand p0.Crew.Hands, roL 1 enc_Int p0.next]], .rp [.int .i64 (p1)]]) := by
 refine Ctr.of_body (N := 6) Try.func69 (by kernel_rfl) (c := _) rfl Try.ntmps69 rfl (fun w0 h0 hval => ?_)
 refine W.rg env [2, 3] [2, 3] ?_
 refine W.rg env [4] [2, 3] ?_
 refine W.ret ?_
 exact At.ret env.ty rfl rfl (fun q hq => by cases hq) (.refl _) hval
theorem c_crew_plan__followers_1 (c0 : crew_plan) (c1 : Int) {r : List (Int)} (H : crew_plan__followers_1 c0 c1 = some r) : Iter Try.prog 98 [.rp [.rp [roL 4 enc_Task c0.Crew.Tasks, roL 1 enc_ListRange c0.Crew.Travel, roL 3 enc_Hand c0.Crew.Hands, roL 1 enc_Int c0.next]], .rp [.int .i64 (c1)]] (r.map (fun (x : Int) => [.int .i64 (x)])) := by
 unfold crew_plan__followers_1 at H
 have hYl := Yl.start r
 skip
 refine Iter.of_body (N := 31) Try.func98 (by kernel_rfl) (c := _) rfl Try.ntmps98 rfl (fun w0 h0 lp J hJ hval hY => ?_)
 refine W.rg env [0, 1, 2, 9, 10] [] ?_
 refine W.block ?_
 refine At.keep (ts := [0, 1, 2, 9, 10]) (ids := []) rfl rfl ?_
 obtain ⟨hn1, H⟩ := of_must H
 refine W.rangeGoI H hYl (fun i1 (s1 : Unit) => [(0, .fn (.yield lp) [] []), (1, .rp [.rp [roL 4 enc_Task c0.Crew.Tasks, roL 1 enc_ListRange c0.Crew.Travel, roL 3 enc_Hand c0.Crew.Hands, roL 1 enc_Int c0.next]]), (2, .rp [.int .i64 (c1)]), (9, .int .i64 (((c0.next.length : Nat) : Int))), (10, .int .i64 ((i1 : Int)))]) (fun i1 (s1 : Unit) => []) (.cons .q (.cons .q (.cons .q (.cons .qi (.cons .qi .nil))))) .nil (fun k1 i1 s1 g r hle1 hYl H1 H2 K0 hK1 => ?_)
 refine W.rg env [0, 1, 2, 9, 10, 11] [] ?_
 refine W.seq ?_
 refine W.cond rfl (fun hb2 => ?_) (fun hb2 => ?_)
 · have hi1 : i1 < c0.next.length := by have := of_decide_eq_true hb2; omega
   have H := H1 hi1
   refine W.skip ?_
   refine At.thenC ?_
   refine W.seq ?_
   refine W.block ?_
   refine W.rg env [0, 1, 2, 4, 9, 10] [] ?_
   refine W.seq ?_
   obtain ⟨hc3, H⟩ := of_must H
   obtain ⟨hc4, H⟩ := of_must H
   obtain ⟨hc5, H⟩ := of_must H
   refine W.regionYd env hY [] 14 [] [] rfl rfl rfl rfl rfl rfl rfl rfl (fun b => rfl) rfl (fun b => by cases b <;> rfl) (.cons hc3 (.cons hc4 (.cons hc5 .nil))) .nil (.cons (fun h => h) (.cons (fun h => h) .nil)) (fun b => (.cons (fun h => h) (.cons (fun h => h) .nil))) (fun b => .nil) (fun hW => Yl.item (fun (x : Int) => [.int .i64 (x)]) H hYl hW) (fun b g1 hg1 hg2 => ?_)
   refine At.keep (ts := [0, 1, 2, 9, 10, 29]) (ids := []) rfl rfl ?_
   refine At.thenC ?_
   rcases Yl.split hg1 hg2 with ⟨hw1, hw2, rfl⟩ | ⟨hw1, hw2, hw3⟩
   · refine W.cond rfl (fun hb => ?_) (fun hb => ?_)
     · refine W.ret ?_
       refine At.rinb ?_
       refine At.rthen ?_
       refine At.rthen ?_
       refine At.rinb ?_
       exact At.iret rfl (.inl rfl) hval
     · exact absurd hb (by rw [hw1, hw2]; simp)
   · refine W.cond rfl (fun hb => ?_) (fun hb => ?_)
     · exact absurd hb (by intro hb; simp only [Bool.and_eq_true, Bool.not_eq_true'] at hb; have := hw1 (by first | exact hb.1 | (simp only [Bool.and_eq_true]; exact hb.1)); rw [this] at hb; simp at hb)
     · obtain ⟨r, H, hYl⟩ := Yl.next H hYl hw2 hw3
       refine W.skip ?_
       refine At.inb ?_
       refine At.thenC ?_
       refine W.region env [] [] rfl rfl rfl (.cons (by unfold inI; have := hn1; (try unfold maxLen at this); omega) .nil) .nil (At.keep (ts := [0, 1, 2, 9, 10]) (ids := []) rfl rfl ?_)
       refine At.thenK (At.keep (ts := [0, 1, 2, 9, 10]) (ids := []) rfl rfl ?_)
       exact At.conv (.cons .q (.cons .q (.cons .q (.cons .qi (.cons .qi .nil))))) .nil (hK1 hi1 () _ _ hYl H)
 · have H := H2 (by have := of_decide_eq_false hb2; omega)
   refine W.exit ?_
   refine At.xthen ?_
   refine At.xthen ?_
   refine At.xhere ?_
   refine At.iofNormal ?_
   exact At.iret rfl (.inr (Yl.fin (fun (x : Int) => [.int .i64 (x)]) H hYl)) hval
theorem cl_crew_plan__pair_1_l (fuel : Nat) : ∀ (n : Nat) (p0 : Int) (c0 : crew_plan) (c1 : Int) (c2 : (List Int)) (c4 : (List Int)) {r : (Bool × Int × (List Int) × (List Int))} (H : crew_plan__pair_1_l fuel n p0 c0 c1 c2 c4 = some r), CtrO Try.prog 96 [.int .i64 (p0), .lp 90000 0, .lp 90001 0, .lp 90002 0, .lp 90004 0, .lp 90005 0] [(90000, .cells [.rp [roL 4 enc_Task c0.Crew.Tasks, roL 1 enc_ListRange c0.Crew.Travel, roL 3 enc_Hand c0.Crew.Hands, roL 1 enc_Int c0.next]]), (90001, .cells [.int .i64 (c1)]), (90002, .cells [.buf 90003 (c2).length]), (90003, bufL 3 1 enc_Int c2), (90004, .cells [.fn (.func 96) [] [.lp 90000 0, .lp 90001 0, .lp 90002 0, .lp 90004 0, .lp 90005 0]]), (90005, .cells [.buf 90006 (c4).length]), (90006, bufL 3 1 enc_Int c4)] (.bool (r.1)) [(90000, .cells [.rp [roL 4 enc_Task c0.Crew.Tasks, roL 1 enc_ListRange c0.Crew.Travel, roL 3 enc_Hand c0.Crew.Hands, roL 1 enc_Int c0.next]]), (90001, .cells [.int .i64 (r.2.1)]), (90002, .cells [.buf 90003 (r.2.2.1).length]), (90003, bufL 3 1 enc_Int r.2.2.1), (90004, .cells [.fn (.func 96) [] [.lp 90000 0, .lp 90001 0, .lp 90002 0, .lp 90004 0, .lp 90005 0]]), (90005, .cells [.buf 90006 (r.2.2.2).length]), (90006, bufL 3 1 enc_Int r.2.2.2)] := by
 intro n; induction n with
 | zero => intro p0 c0 c1 c2 c4 r H; cases H
 | succ n ih =>
   intro p0 c0 c1 c2 c4 r H
   have H : crew_plan__pair_1_l_F fuel (crew_plan__pair_1_l fuel n) p0 c0 c1 c2 c4 = some r := H
   unfold crew_plan__pair_1_l_F at H
   refine CtrL.of_body (N := 43) Try.func96 (by kernel_rfl) (c := _) rfl Try.ntmps96 rfl rfl (fun w0 h0 ρb hval hdom hent => ?_)
   refine W.rg env [1, 2, 3, 4, 5, 6, 7] [6, 7, 90000, 90001, 90002, 90003, 90004, 90005, 90006] ?_
   refine W.seq ?_
   refine W.sr env [] [⟨.clo (.func 98) [] [.rp [.rp [roL 4 enc_Task c0.Crew.Tasks, roL 1 enc_ListRange c0.Crew.Travel, roL 3 enc_Hand c0.Crew.Hands, roL 1 enc_Int c0.next]], .rp [.int .i64 (p0)]], [], 0, []⟩] [2, 3, 4, 5, 6, 7, 11] [6, 7, 90000, 90001, 90002, 90003, 90004, 90005, 90006] rfl rfl rfl .nil (.free (c_crew_plan__followers c0 p0) .nil) ?_
   refine W.block ?_
   obtain ⟨it1, hit1, H⟩ := of_bindO H
   refine At.keep (ts := [2, 3, 4, 5, 6, 7, 11]) (ids := [6, 7, 90000, 90001, 90002, 90003, 90004, 90005, 90006]) rfl rfl ?_
   refine W.listGo H (fun (x : Int) => [.int .i64 (x)]) (c_crew_plan__followers_1 c0 p0 hit1) rfl (fun _ => ⟨rfl, rfl⟩) rfl rfl rfl (fun (s2 : (List Int) × (List Int) × Int) => [(6, .cells [.int .i64 (p0)]), (7, .cells [.bool (false)]), (90000, .cells [.rp [roL 4 enc_Task c0.Crew.Tasks, roL 1 enc_ListRange c0.Crew.Travel, roL 3 enc_Hand c0.Crew.Hands, roL 1 enc_Int c0.next]]), (90001, .cells [.int .i64 (s2.2.2)]), (90002, .cells [.buf 90003 (s2.1).length]), (90003, bufL 3 1 enc_Int s2.1), (90004, .cells [.fn (.func 96) [] [.lp 90000 0, .lp 90001 0, .lp 90002 0, .lp 90004 0, .lp 90005 0]]), (90005, .cells [.buf 90006 (s2.2.1).length]), (90006, bufL 3 1 enc_Int s2.2.1)]) (.cons .q (.cons .q (.cons .q (.cons .q (.cons (BSim.cells (.cons .qc .nil)) (.cons .q (.cons .q (.cons (BSim.cells (.cons .qc .nil)) (.cons .q .nil))))))))) (fun (x1 : Int) => [(2, .lp 90001 0), (3, .lp 90002 0), (4, .lp 90004 0), (5, .lp 90005 0), (6, .lp 6 0), (7, .lp 7 0), (8, .int .i64 (x1))]) (fun (x1 : Int) (s2 : (List Int) × (List Int) × Int) => [(6, .cells [.int .i64 (p0)]), (7, .cells [.bool (false)]), (90000, .cells [.rp [roL 4 enc_Task c0.Crew.Tasks, roL 1 enc_ListRange c0.Crew.Travel, roL 3 enc_Hand c0.Crew.Hands, roL 1 enc_Int c0.next]]), (90001, .cells [.int .i64 (s2.2.2)]), (90002, .cells [.buf 90003 (s2.1).length]), (90003, bufL 3 1 enc_Int s2.1), (90004, .cells [.fn (.func 96) [] [.lp 90000 0, .lp 90001 0, .lp 90002 0, .lp 90004 0, .lp 90005 0]]), (90005, .cells [.buf 90006 (s2.2.1).length]), (90006, bufL 3 1 enc_Int s2.2.1)]) (fun e (sx : Bool × Int × (List Int) × (List Int)) => e = Exit.ret ∧ some (sx.1, sx.2.1, sx.2.2.1, sx.2.2.2) = some r) (fun _ (sx : Bool × Int × (List Int) × (List Int)) => [(6, .cells [.int .i64 (p0)]), (7, .cells [.bool (sx.1)]), (90000, .cells [.rp [roL 4 enc_Task c0.Crew.Tasks, roL 1 enc_ListRange c0.Crew.Travel, roL 3 enc_Hand c0.Crew.Hands, roL 1 enc_Int c0.next]]), (90001, .cells [.int .i64 (sx.2.1)]), (90002, .cells [.buf 90003 (sx.2.2.1).length]), (90003, bufL 3 1 enc_Int sx.2.2.1), (90004, .cells [.fn (.func 96) [] [.lp 90000 0, .lp 90001 0, .lp 90002 0, .lp 90004 0, .lp 90005 0]]), (90005, .cells [.buf 90006 (sx.2.2.2).length]), (90006, bufL 3 1 enc_Int sx.2.2.2)]) (fun e s h => .inl h.1) hval (fun h1 vs gh st lp x1 s2 K hK => ?_) (fun k2 h1 vs gh st lp x1 s2 H Qr hQ2 hX2 => ?_) (fun s2 H => ?_) (fun e sx h => ?_)
   · refine W.region env [] [] rfl rfl rfl .nil .nil (At.keep (ts := [2, 3, 4, 5, 6, 7, 8]) (ids := [6, 7, 90000, 90001, 90002, 90003, 90004, 90005, 90006]) rfl rfl ?_)
     refine At.thenK (At.keep (ts := [2, 3, 4, 5, 6, 7, 8]) (ids := [6, 7, 90000, 90001, 90002, 90003, 90004, 90005, 90006]) rfl rfl ?_)
     exact hK
   · refine W.block ?_
     refine W.seq ?_
     obtain ⟨hc3, H⟩ := of_must H
     obtain ⟨hc4, H⟩ := of_must H
     refine W.sr env [] [] [2, 3, 4, 5, 6, 7, 8, 17] [6, 7, 90000, 90001, 90002, 90003, 90004, 90005, 90006] rfl rfl rfl (.cons hc3 (.cons hc4 .nil)) .nil ?_
     refine W.cond rfl (fun hb5 => ?_) (fun hb5 => ?_)
     · have H := of_true H hb5
       refine W.exit ?_
       refine At.xthen ?_
       refine At.xhere ?_
       refine At.keep (ts := []) (ids := [6, 7, 90000, 90001, 90002, 90003, 90004, 90005, 90006]) rfl rfl ?_
       exact At.conv .nil (.cons .q (.cons .q (.cons .q (.cons .q (.cons (BSim.cells (.cons .qc .nil)) (.cons .q (.cons .q (.cons (BSim.cells (.cons .qc .nil)) (.cons .q .nil))))))))) (hQ2 (s2.1, s2.2.1, s2.2.2) H)
     · have H := of_false H hb5
       refine W.skip ?_
       refine At.thenC ?_
       obtain ⟨hc6, H⟩ := of_must H
       obtain ⟨hc7, H⟩ := of_must H
       refine W.sr env [] [] [3, 4, 5, 6, 7, 8] [6, 7, 90000, 90001, 90002, 90003, 90004, 90005, 90006] rfl rfl (by first | rfl | kernel_rfl) (.cons hc6 (.cons hc7 .nil)) .nil ?_
       refine W.seq ?_
       obtain ⟨hc8, H⟩ := of_must H
       obtain ⟨hc9, H⟩ := of_must H
       obtain ⟨y10, hy11, H⟩ := of_bindO H
       refine W.region env [] [⟨.bool (y10.1), [(90000, .cells [.rp [roL 4 enc_Task c0.Crew.Tasks, roL 1 enc_ListRange c0.Crew.Travel, roL 3 enc_Hand c0.Crew.Hands, roL 1 enc_Int c0.next]]), (90001, .cells [.int .i64 (y10.2.1)]), (90002, .cells [.buf 90003 (y10.2.2.1).length]), (90003, bufL 3 1 enc_Int y10.2.2.1), (90004, .cells [.fn (.func 96) [] [.lp 90000 0, .lp 90001 0, .lp 90002 0, .lp 90004 0, .lp 90005 0]]), (90005, .cells [.buf 90006 (y10.2.2.2).length]), (90006, bufL 3 1 enc_Int y10.2.2.2)], 0, [90000, 90001, 90002, 90003, 90004, 90005, 90006]⟩] rfl rfl (by kernel_rfl) (.cons (⟨by first | rfl | (simp; done) | omega | (simp; omega), hc8⟩) (.cons (⟨by first | rfl | (simp; done) | omega | (simp; omega), (by have := hc8; first | omega | (simp only [List.length_set]; omega) | (simp only [Int.toNat_natCast] at *; omega) | (simp at this ⊢; omega))⟩) (.cons (fun hW => ⟨by first | rfl | (simp; done) | omega | (simp; omega), hc9 hW⟩) (.cons (fun h => h) (.cons (fun h => h) (.cons (fun hW => (⟨by first | rfl | (simp; done) | omega | (simp; omega), (by have := hc9 hW; first | omega | (simp only [List.length_set]; omega) | (simp only [Int.toNat_natCast] at *; omega) | (simp at this ⊢; omega))⟩)) (.cons (fun h => h) (.cons (fun hW => by obtain rfl := lend_off hy11 hW; first | exact .refl _ | exact .q) (.cons (fun hW => by obtain rfl := lend_off hy11 hW; first | exact .refl _ | exact .q) (.cons (fun hW => by obtain rfl := lend_off hy11 hW; first | exact .refl _ | exact .q) (.cons (fun hW => by obtain rfl := lend_off hy11 hW; first | exact .refl _ | exact .q) (.cons (fun hW => by obtain rfl := lend_off hy11 hW; first | exact .refl _ | exact .q) (.cons (fun hW => by obtain rfl := lend_off hy11 hW; first | exact .refl _ | exact .q) (.cons (fun hW => by obtain rfl := lend_off hy11 hW; first | exact .refl _ | exact .q) (.cons (fun h => h) (.cons (fun h => h) (.cons (fun h => by rw [h]; rfl) .nil))))))))))))))))) (.on (fun hW => (CtrO.sim (CtrO.ren (ih (s2.1.getD (x1).toNat default) c0 (((s2.2.2 : Int).toNat ||| (((1 : Int) * 2 ^ (x1 : Int).toNat) : Int).toNat : Nat) : Int) s2.1 s2.2.1 (of_true hy11 hW)) [(90000, 90000), (90001, 90001), (90002, 90002), (90003, 90003), (90004, 90004), (90005, 90005), (90006, 90006)]) (.cons (.refl _) (.cons (.refl _) (.cons (.refl _) (.cons (.refl _) (.cons (.refl _) (.cons (.refl _) .nil)))))) (.cons (.refl _) (.cons (.refl _) (.cons (BSim.cells (.cons .qc .nil)) (.cons (.refl _) (.cons (.refl _) (.cons (BSim.cells (.cons .qc .nil)) (.cons (.refl _) .nil))))))))) .nil) (At.keep (ts := [3, 5, 6, 7, 8, 34]) (ids := [6, 7, 90000, 90001, 90002, 90003, 90004, 90005, 90006]) rfl rfl ?_)
       refine At.thenC ?_
       refine W.cond rfl (fun hb12 => ?_) (fun hb12 => ?_)
       · have H := of_true H hb12
         refine W.seq ?_
         obtain ⟨hc13, H⟩ := of_must H
         obtain ⟨hc14, H⟩ := of_must H
         refine W.region env [] [] rfl rfl (by first | rfl | kernel_rfl) (.cons (⟨by first | rfl | (simp; done) | omega | (simp; omega), hc13⟩) (.cons (⟨by first | rfl | (simp; done) | omega | (simp; omega), (by have := hc13; first | omega | (simp only [List.length_set]; omega) | (simp only [Int.toNat_natCast] at *; omega) | (simp at this ⊢; omega))⟩) (.cons (⟨by first | rfl | (simp; done) | omega | (simp; omega), hc14⟩) (.cons (⟨by first | rfl | (simp; done) | omega | (simp; omega), (by have := hc14; first | omega | (simp only [List.length_set]; omega) | (simp only [Int.toNat_natCast] at *; omega) | (simp at this ⊢; omega))⟩) .nil)))) .nil (At.keep (ts := [7]) (ids := [6, 7, 90000, 90001, 90002, 90003, 90004, 90005, 90006]) rfl rfl ?_)
         refine At.convM (.cons (.refl _) (.cons (.refl _) (.cons (.refl _) (.cons (.refl _) (.cons (.refl _) (.cons (y := bufL 3 1 enc_Int (y10.2.2.1.set (x1).toNat p0)) (BSim.seg (Seg.set (Seg.refl enc_Int _) p0 rfl)) (.cons (.refl _) (.cons (.refl _) (.cons (y := bufL 3 1 enc_Int (y10.2.2.2.set (p0).toNat x1)) (BSim.seg (Seg.set (Seg.refl enc_Int _) x1 rfl)) .nil))))))))) ?_
         refine At.thenC ?_
         refine W.rg env [7] [6, 7, 90000, 90001, 90002, 90003, 90004, 90005, 90006] ?_
         refine W.ret ?_
         refine At.rinb ?_
         refine At.keep (ts := []) (ids := [6, 7, 90000, 90001, 90002, 90003, 90004, 90005, 90006]) rfl rfl ?_
         exact At.conv .nil (.cons .q (.cons .q (.cons .q (.cons .q (.cons (BSim.cells (.cons .qc .nil)) (.cons .q (.cons .q (.cons (BSim.cells (.cons .qc .nil)) (.cons .q .nil))))))))) (hX2 .ret (true, y10.2.1, (y10.2.2.1.set (x1).toNat p0), (y10.2.2.2.set (p0).toNat x1)) ⟨rfl, H⟩)
       · have H := of_false H hb12
         refine W.skip ?_
         refine At.inb ?_
         refine At.keep (ts := []) (ids := [6, 7, 90000, 90001, 90002, 90003, 90004, 90005, 90006]) rfl rfl ?_
         exact At.conv .nil (.cons .q (.cons .q (.cons .q (.cons .q (.cons (BSim.cells (.cons .qc .nil)) (.cons .q (.cons .q (.cons (BSim.cells (.cons .qc .nil)) (.cons .q .nil))))))))) (hQ2 (y10.2.2.1, y10.2.2.2, y10.2.1) H)
   · refine At.inb ?_
     refine At.thenC ?_
     refine W.rg env [7] [7, 90000, 90001, 90002, 90003, 90004, 90005, 90006] ?_
     refine W.ret ?_
     cases H
     exact At.retL env.ty [90000, 90001, 90002, 90003, 90004, 90005, 90006] rfl rfl rfl rfl (.cons (.refl _) (.cons (.refl _) (.cons (BSim.cells (.cons .qc .nil)) (.cons (.refl _) (.cons (.refl _) (.cons (BSim.cells (.cons .qc .nil)) (.cons (.refl _) .nil))))))) (.refl _) hval hdom hent rfl rfl
   · obtain ⟨rfl, H⟩ := h
     refine At.rinb ?_
     refine At.rthen ?_
     cases H
     exact At.retL env.ty [90000, 90001, 90002, 90003, 90004, 90005, 90006] rfl rfl rfl rfl (.cons (.refl _) (.cons (.refl _) (.cons (BSim.cells (.cons .qc .nil)) (.cons (.refl _) (.cons (.refl _) (.cons (BSim.cells (.cons .qc .nil)) (.cons (.refl _) .nil))))))) (.refl _) hval hdom hent rfl rfl
theorem c_crew_plan__pair (fuel : Nat) (p0 : crew_plan) {r : ((List Int) × (List Int))} (H : crew_plan__pair fuel p0 = some r) : Ctr Try.prog 59 [.rp [roL 4 enc_Task p0.Crew.Tasks, roL 1 enc_ListRange p0.Crew.Travel, roL 3 enc_Hand p0.Crew.Hands, roL 1 enc_Int p0.next]] (.tup [roL 1 enc_Int r.1, roL 1 enc_Int r.2]) := by
 unfold crew_plan__pair at H
 refine Ctr.of_body (N := 47) Try.func59 (by kernel_rfl) (c := _) rfl Try.ntmps59 rfl (fun w0 h0 hval => ?_)
 refine W.rg env [1, 2, 3] [1, 2, 3] ?_
 refine W.seq ?_
 obtain ⟨hc1, H⟩ := of_must H
 obtain ⟨hc2, H⟩ := of_must H
 refine W.region env [] [] rfl rfl (by first | rfl | kernel_rfl) (.cons hc1 (.cons hc2 .nil)) .nil (At.keep (ts := [1, 2, 3]) (ids := [1, 2, 3, 13, 19]) rfl rfl ?_)
 refine At.convM (.cons (.refl _) (.cons (.refl _) (.cons (.refl _) (.cons (y := bufL 3 1 enc_Int (List.replicate (((p0.next.length : Nat) : Int)).toNat (0 : Int))) (BSim.seg (Seg.made (f := enc_Int) 0 rfl)) (.cons (y := bufL 3 1 enc_Int (List.replicate (((p0.next.length : Nat) : Int)).toNat (0 : Int))) (BSim.seg (Seg.made (f := enc_Int) 0 rfl)) .nil))))) ?_
 refine At.thenC ?_
 refine W.seq ?_
 refine W.sr env [] [] [1, 2, 3, 21, 22] [1, 2, 3, 13, 19] rfl rfl rfl (.cons (by first | rfl | (simp; done) | omega | (simp; omega)) .nil) .nil ?_
 refine W.block ?_
 refine At.keep (ts := [1, 2, 3, 21, 22]) (ids := [1, 2, 3, 13, 19]) rfl rfl ?_
 obtain ⟨hn3, H⟩ := of_must H
 refine W.rangeGo H (fun i3 (s3 : (List Int) × (List Int)) => [(1, .lp 1 0), (2, .lp 2 0), (3, .lp 3 0), (21, .int .i64 ((((List.replicate (((p0.next.length : Nat) : Int)).toNat (0 : Int)).length : Nat) : Int))), (22, .int .i64 ((i3 : Int)))]) (fun i3 (s3 : (List Int) × (List Int)) => [(1, .cells [.rp [roL 4 enc_Task p0.Crew.Tasks, roL 1 enc_ListRange p0.Crew.Travel, roL 3 enc_Hand p0.Crew.Hands, roL 1 enc_Int p0.next]]), (2, .cells [.buf 13 (s3.1).length]), (3, .cells [.buf 19 (s3.2).length]), (13, bufL 3 1 enc_Int s3.1), (19, bufL 3 1 enc_Int s3.2)]) (.cons .q (.cons .q (.cons .q (.cons .qi (.cons .qi .nil))))) (.cons .q (.cons (BSim.cells (.cons .qc .nil)) (.cons (BSim.cells (.cons .qc .nil)) (.cons .q (.cons .q .nil))))) (fun k3 i3 s3 hle3 H1 H2 K0 hK3 => ?_)
 refine W.rg env [1, 2, 3, 21, 22, 23] [1, 2, 3, 13, 19] ?_
 refine W.seq ?_
 refine W.cond rfl (fun hb4 => ?_) (fun hb4 => ?_)
 · have hi3 : i3 < (List.replicate (((p0.next.length : Nat) : Int)).toNat (0 : Int)).length := by have := of_decide_eq_true hb4; omega
   have H := H1 hi3
   refine W.skip ?_
   refine At.thenC ?_
   refine W.seq ?_
   refine W.block ?_
   refine W.rg env [1, 2, 3, 4, 21, 22] [1, 2, 3, 13, 19] ?_
   obtain ⟨hc5, H⟩ := of_must H
   obtain ⟨hc6, H⟩ := of_must H
   refine W.region env [] [] rfl rfl (by first | rfl | kernel_rfl) (.cons (⟨by first | rfl | (simp; done) | omega | (simp; omega), hc5⟩) (.cons (⟨by first | rfl | (simp; done) | omega | (simp; omega), (by have := hc5; first | omega | (simp only [List.length_set]; omega) | (simp only [Int.toNat_natCast] at *; omega) | (simp at this ⊢; omega))⟩) (.cons (⟨by first | rfl | (simp; done) | omega | (simp; omega), hc6⟩) (.cons (⟨by first | rfl | (simp; done) | omega | (simp; omega), (by have := hc6; first | omega | (simp only [List.length_set]; omega) | (simp only [Int.toNat_natCast] at *; omega) | (simp at this ⊢; omega))⟩) .nil)))) .nil (At.keep (ts := [1, 2, 3, 21, 22]) (ids := [1, 2, 3, 13, 19]) rfl rfl ?_)
   refine At.convM (.cons (.refl _) (.cons (.refl _) (.cons (.refl _) (.cons (y := bufL 3 1 enc_Int (s3.1.set i3 (-1))) (BSim.seg (Seg.set (Seg.refl enc_Int _) (-1) rfl)) (.cons (y := bufL 3 1 enc_Int (s3.2.set i3 (-1))) (BSim.seg (Seg.set (Seg.refl enc_Int _) (-1) rfl)) .nil))))) ?_
   refine At.inb ?_
   refine At.thenC ?_
   refine W.region env [] [] rfl rfl rfl (.cons (by unfold inI; have := hn3; (try unfold maxLen at this); omega) .nil) .nil (At.keep (ts := [1, 2, 3, 21, 22]) (ids := [1, 2, 3, 13, 19]) rfl rfl ?_)
   refine At.thenK (At.keep (ts := [1, 2, 3, 21, 22]) (ids := [1, 2, 3, 13, 19]) rfl rfl ?_)
   exact At.conv (.cons .q (.cons .q (.cons .q (.cons .qi (.cons .qi .nil))))) (.cons .q (.cons (BSim.cells (.cons .qc .nil)) (.cons (BSim.cells (.cons .qc .nil)) (.cons .q (.cons .q .nil))))) (hK3 hi3 ((s3.1.set i3 (-1)), (s3.2.set i3 (-1))) H)
 · have H := H2 (by have := of_decide_eq_false hb4; omega)
   refine W.exit ?_
   refine At.xthen ?_
   refine At.xthen ?_
   refine At.xhere ?_
   refine At.thenC ?_
   refine W.seq ?_
   refine W.rg env [1, 2, 3, 36, 37] [1, 2, 3, 13, 19] ?_
   refine W.block ?_
   refine At.keep (ts := [1, 2, 3, 36, 37]) (ids := [1, 2, 3, 13, 19]) rfl rfl ?_
   obtain ⟨hn7, H⟩ := of_must H
   refine W.rangeGo H (fun i7 (s7 : (List Int) × (List Int)) => [(1, .lp 1 0), (2, .lp 2 0), (3, .lp 3 0), (36, .int .i64 (((p0.next.length : Nat) : Int))), (37, .int .i64 ((i7 : Int)))]) (fun i7 (s7 : (List Int) × (List Int)) => [(1, .cells [.rp [roL 4 enc_Task p0.Crew.Tasks, roL 1 enc_ListRange p0.Crew.Travel, roL 3 enc_Hand p0.Crew.Hands, roL 1 enc_Int p0.next]]), (2, .cells [.buf 13 (s7.1).length]), (3, .cells [.buf 19 (s7.2).length]), (13, bufL 3 1 enc_Int s7.1), (19, bufL 3 1 enc_Int s7.2)]) (.cons .q (.cons .q (.cons .q (.cons .qi (.cons .qi .nil))))) (.cons .q (.cons (BSim.cells (.cons .qc .nil)) (.cons (BSim.cells (.cons .qc .nil)) (.cons .q (.cons .q .nil))))) (fun k7 i7 s7 hle7 H1 H2 K0 hK7 => ?_)
   refine W.rg env [1, 2, 3, 36, 37, 38] [1, 2, 3, 13, 19] ?_
   refine W.seq ?_
   refine W.cond rfl (fun hb8 => ?_) (fun hb8 => ?_)
   · have hi7 : i7 < p0.next.length := by have := of_decide_eq_true hb8; omega
     have H := H1 hi7
     refine W.skip ?_
     refine At.thenC ?_
     refine W.seq ?_
     refine W.block ?_
     refine W.rg env [1, 2, 3, 5, 36, 37] [1, 2, 3, 13, 19] ?_
     refine W.rg env [1, 2, 3, 5, 6, 36, 37] [1, 2, 3, 6, 13, 19] ?_
     refine W.rg env [1, 2, 3, 5, 6, 7, 36, 37] [1, 2, 3, 6, 7, 13, 19] ?_
     refine W.rg env [1, 2, 3, 5, 7, 36, 37] [1, 2, 3, 6, 7, 13, 19] ?_
     obtain ⟨y9, hy10, H⟩ := of_bindO H
     refine W.region env [] [⟨.bool (y9.1), [(1, .cells [.rp [roL 4 enc_Task p0.Crew.Tasks, roL 1 enc_ListRange p0.Crew.Travel, roL 3 enc_Hand p0.Crew.Hands, roL 1 enc_Int p0.next]]), (6, .cells [.int .i64 (y9.2.1)]), (2, .cells [.buf 13 (y9.2.2.1).length]), (13, bufL 3 1 enc_Int y9.2.2.1), (7, .cells [.fn (.func 96) [] [.lp 1 0, .lp 6 0, .lp 2 0, .lp 7 0, .lp 3 0]]), (3, .cells [.buf 19 (y9.2.2.2).length]), (19, bufL 3 1 enc_Int y9.2.2.2)], 0, [1, 6, 2, 13, 7, 3, 19]⟩] rfl rfl (by kernel_rfl) .nil (.free (CtrO.sim (CtrO.ren (cl_crew_plan__pair_1_l fuel fuel (i7 : Int) p0 0 s7.1 s7.2 hy10) [(90000, 1), (90001, 6), (90002, 2), (90003, 13), (90004, 7), (90005, 3), (90006, 19)]) (.cons (.refl _) (.cons (.refl _) (.cons (.refl _) (.cons (.refl _) (.cons (.refl _) (.cons (.refl _) .nil)))))) (.cons (.refl _) (.cons (.refl _) (.cons (BSim.cells (.cons .qc .nil)) (.cons (.refl _) (.cons (.refl _) (.cons (BSim.cells (.cons .qc .nil)) (.cons (.refl _) .nil)))))))) .nil) (At.keep (ts := [1, 2, 3, 36, 37]) (ids := [1, 2, 3, 13, 19]) rfl rfl ?_)
     refine At.inb ?_
     refine At.thenC ?_
     refine W.region env [] [] rfl rfl rfl (.cons (by unfold inI; have := hn7; (try unfold maxLen at this); omega) .nil) .nil (At.keep (ts := [1, 2, 3, 36, 37]) (ids := [1, 2, 3, 13, 19]) rfl rfl ?_)
     refine At.thenK (At.keep (ts := [1, 2, 3, 36, 37]) (ids := [1, 2, 3, 13, 19]) rfl rfl ?_)
     exact At.conv (.cons .q (.cons .q (.cons .q (.cons .qi (.cons .qi .nil))))) (.cons .q (.cons (BSim.cells (.cons .qc .nil)) (.cons (BSim.cells (.cons .qc .nil)) (.cons .q (.cons .q .nil))))) (hK7 hi7 (y9.2.2.1, y9.2.2.2) H)
   · have H := H2 (by have := of_decide_eq_false hb8; omega)
     refine W.exit ?_
     refine At.xthen ?_
     refine At.xthen ?_
     refine At.xhere ?_
     refine At.thenC ?_
     refine W.sr env [] [] [2, 3] [2, 3, 13, 19] rfl rfl (by first | rfl | kernel_rfl) .nil .nil ?_
     refine W.ret ?_
     cases H
     exact At.ret env.ty rfl rfl (fun q hq => by cases hq; exact ⟨by first | rfl | (simp; done) | omega | (simp; omega), (by first | rfl | (simp; done) | omega | (simp; omega))⟩) (.refl _) hval
theorem c_crew_plan__count (fuel : Nat) (p0 : crew_plan) {r : Int} (H : crew_plan__count fuel p0 = some r) : Ctr Try.prog 65 [.rp [roL 4 enc_Task p0.Crew.Tasks, roL 1 enc_ListRange p0.Crew.Travel, roL 3 enc_Hand p0.Crew.Hands, roL 1 enc_Int p0.next]] (.int .i64 (r)) := by
 unfold crew_plan__count at H
 refine Ctr.of_body (N := 25) Try.func65 (by kernel_rfl) (c := _) rfl Try.ntmps65 rfl (fun w0 h0 hval => ?_)
 refine W.rg env [0] [] ?_
 refine W.seq ?_
 obtain ⟨y1, hy2, H⟩ := of_bindO H
 refine W.region env [] [⟨.tup [roL 1 enc_Int y1.1, roL 1 enc_Int y1.2], [], 0, []⟩] rfl rfl rfl .nil (.free (c_crew_plan__pair fuel p0 hy2) .nil) (At.keep (ts := [3]) (ids := []) rfl rfl ?_)
 refine At.thenC ?_
 refine W.rg env [3, 5] [] ?_
 refine W.seq ?_
 refine W.rg env [5, 13, 14, 15] [] ?_
 refine W.block ?_
 refine At.keep (ts := [5, 13, 14, 15]) (ids := []) rfl rfl ?_
 refine W.len (t := 13) rfl (fun (hn3 : y1.1.length ≤ maxLen) => ?_)
 refine W.rangeGo H (fun i3 (s3 : Int) => [(5, .int .i64 (s3)), (13, roL 1 enc_Int y1.1), (14, .int .i64 (((y1.1.length : Nat) : Int))), (15, .int .i64 ((i3 : Int)))]) (fun i3 (s3 : Int) => []) (.cons .qi (.cons .q (.cons .qi (.cons .qi .nil)))) .nil (fun k3 i3 s3 hle3 H1 H2 K0 hK3 => ?_)
 refine W.rg env [5, 13, 14, 15, 16] [] ?_
 refine W.seq ?_
 refine W.cond rfl (fun hb4 => ?_) (fun hb4 => ?_)
 · have hi3 : i3 < y1.1.length := by have := of_decide_eq_true hb4; omega
   have H := H1 hi3
   refine W.skip ?_
   refine At.thenC ?_
   refine W.seq ?_
   refine W.block ?_
   refine W.sr env [] [] [5, 7, 13, 14, 15] [] rfl rfl rfl (.cons (⟨by omega, by omega⟩ : 0 ≤ (i3 : Int) ∧ (i3 : Int) < ((y1.1.length : Nat) : Int)) .nil) .nil ?_
   refine W.rg env [5, 13, 14, 15, 20] [] ?_
   refine W.cond rfl (fun hb5 => ?_) (fun hb5 => ?_)
   · have H := of_true H hb5
     obtain ⟨hc6, H⟩ := of_must H
     refine W.region env [] [] rfl rfl rfl (.cons hc6 .nil) .nil (At.keep (ts := [5, 13, 14, 15]) (ids := []) rfl rfl ?_)
     refine At.inb ?_
     refine At.thenC ?_
     refine W.region env [] [] rfl rfl rfl (.cons (by unfold inI; have := hn3; (try unfold maxLen at this); omega) .nil) .nil (At.keep (ts := [5, 13, 14, 15]) (ids := []) rfl rfl ?_)
     refine At.thenK (At.keep (ts := [5, 13, 14, 15]) (ids := []) rfl rfl ?_)
     exact At.conv (.cons .qi (.cons .q (.cons .qi (.cons .qi .nil)))) .nil (hK3 hi3 (s3 + 1) H)
   · have H := of_false H hb5
     refine W.skip ?_
     refine At.inb ?_
     refine At.thenC ?_
     refine W.region env [] [] rfl rfl rfl (.cons (by unfold inI; have := hn3; (try unfold maxLen at this); omega) .nil) .nil (At.keep (ts := [5, 13, 14, 15]) (ids := []) rfl rfl ?_)
     refine At.thenK (At.keep (ts := [5, 13, 14, 15]) (ids := []) rfl rfl ?_)
     exact At.conv (.cons .qi (.cons .q (.cons .qi (.cons .qi .nil)))) .nil (hK3 hi3 s3 H)
 · have H := H2 (by have := of_decide_eq_false hb4; omega)
   refine W.exit ?_
   refine At.xthen ?_
   refine At.xthen ?_
   refine At.xhere ?_
   refine At.thenC ?_
   refine W.rg env [2] [] ?_
   refine W.ret ?_
   cases H
   exact At.ret env.ty rfl rfl (fun q hq => by cases hq) (.refl _) hval
theorem c_crew_Count (fuel : Nat) (p0 : Crew) {r : (Int × Int)} (H : crew_Count fuel p0 = some r) : Ctr Try.prog 22 [.agg [roL 4 enc_Task p0.Tasks, roL 1 enc_ListRange p0.Travel, roL 3 enc_Hand p0.Hands]] (.tup [.int .i64 (r.1), .int .i64 (r.2)]) := by
 unfold crew_Count at H
 refine Ctr.of_body (N := 13) Try.func22 (by kernel_rfl) (c := _) rfl Try.ntmps22 rfl (fun w0 h0 hval => ?_)
 refine W.rg env [1] [1] ?_
 refine W.seq ?_
 refine W.seq ?_
 obtain ⟨y1, hy2, H⟩ := of_bindO H
 refine W.region env [] [⟨.int .i64 (y1), [], 0, []⟩] rfl rfl rfl .nil (.free (c_crew_Check p0 hy2) .nil) (At.keep (ts := [1, 4]) (ids := [1]) rfl rfl ?_)
 refine At.thenC ?_
 refine W.rg env [1, 4, 8] [1] ?_
 refine W.cond rfl (fun hb3 => ?_) (fun hb3 => ?_)
 · have H := of_true H hb3
   refine W.rg env [2, 3] [] ?_
   refine W.ret ?_
   refine At.rthen ?_
   cases H
   exact At.ret env.ty rfl rfl (fun q hq => by cases hq) (.refl _) hval
 · have H := of_false H hb3
   refine W.skip ?_
   refine At.thenC ?_
   refine W.seq ?_
   obtain ⟨y4, hy5, H⟩ := of_bindO H
   obtain ⟨hc6, H⟩ := of_must H
   obtain ⟨y7, hy8, H⟩ := of_bindO H
   refine W.region env [] [⟨.po y4.isSome [roL 4 enc_Task ((y4.getD default).Crew.Tasks), roL 1 enc_ListRange ((y4.getD default).Crew.Travel), roL 3 enc_Hand ((y4.getD default).Crew.Hands), roL 1 enc_Int ((y4.getD default).next)], [], 0, []⟩, ⟨.int .i64 (y7), [], 0, []⟩] rfl rfl rfl .nil (.free (c_crew_newPlan p0 (fun x0 => some (crew_most x0)) 46 [] [] (fun x0 r h => by cases h; exact c_crew_most x0) hy5) (.free (Ctr.sim (.cons (Sim.rp_po hc6) .nil) (c_crew_plan__count fuel (y4.getD default) hy8)) .nil)) (At.keep (ts := [2, 3]) (ids := []) rfl rfl ?_)
   refine At.thenC ?_
   refine W.ret ?_
   cases H
   exact At.ret env.ty rfl rfl (fun q hq => by cases hq) (.refl _) hval
theorem c_crew_Bounds (fuel : Nat) (p0 : Crew) {r : (Range × Int)} (H : crew_Bounds fuel p0 = some r) : Ctr Try.prog 24 [.agg [roL 4 enc_Task p0.Tasks, roL 1 enc_ListRange p0.Travel, roL 3 enc_Hand p0.Hands]] (.tup [.agg [.int .i64 (r.1.Lo), .int .i64 (r.1.Hi)], .int .i64 (r.2)]) := by
 unfold crew_Bounds at H
 refine Ctr.of_body (N := 18) Try.func24 (by kernel_rfl) (c := _) rfl Try.ntmps24 rfl (fun w0 h0 hval => ?_)
 refine W.rg env [1, 2] [1, 2] ?_
 refine W.seq ?_
 refine W.seq ?_
 obtain ⟨y1, hy2, H⟩ := of_bindO H
 refine W.region env [] [⟨.int .i64 (y1), [], 0, []⟩] rfl rfl rfl .nil (.free (c_crew_Check p0 hy2) .nil) (At.keep (ts := [1, 2, 4]) (ids := [1, 2]) rfl rfl ?_)
 refine At.thenC ?_
 refine W.rg env [1, 2, 4, 8] [1, 2] ?_
 refine W.cond rfl (fun hb3 => ?_) (fun hb3 => ?_)
 · have H := of_true H hb3
   refine W.rg env [2, 3] [2] ?_
   refine W.ret ?_
   refine At.rthen ?_
   cases H
   exact At.ret env.ty rfl rfl (fun q hq => by cases hq) (.refl _) hval
 · have H := of_false H hb3
   refine W.skip ?_
   refine At.thenC ?_
   refine W.seq ?_
   obtain ⟨y4, hy5, H⟩ := of_bindO H
   obtain ⟨hc6, H⟩ := of_must H
   obtain ⟨y7, hy8, H⟩ := of_bindO H
   obtain ⟨y9, hy10, H⟩ := of_bindO H
   obtain ⟨hc11, H⟩ := of_must H
   obtain ⟨y12, hy13, H⟩ := of_bindO H
   refine W.region env [] [⟨.po y4.isSome [roL 4 enc_Task ((y4.getD default).Crew.Tasks), roL 1 enc_ListRange ((y4.getD default).Crew.Travel), roL 3 enc_Hand ((y4.getD default).Crew.Hands), roL 1 enc_Int ((y4.getD default).next)], [], 0, []⟩, ⟨.int .i64 (y7), [], 0, []⟩, ⟨.po y9.isSome [roL 4 enc_Task ((y9.getD default).Crew.Tasks), roL 1 enc_ListRange ((y9.getD default).Crew.Travel), roL 3 enc_Hand ((y9.getD default).Crew.Hands), roL 1 enc_Int ((y9.getD default).next)], [], 0, []⟩, ⟨.int .i64 (y12), [], 0, []⟩] rfl rfl (by kernel_rfl) .nil (.free (c_crew_newPlan p0 (fun x0 => some (crew_least x0)) 63 [] [] (fun x0 r h => by cases h; exact c_crew_least x0) hy5) (.free (Ctr.sim (.cons (Sim.rp_po hc6) .nil) (c_crew_plan__count fuel (y4.getD default) hy8)) (.free (c_crew_newPlan p0 (fun x0 => some (crew_most x0)) 46 [] [] (fun x0 r h => by cases h; exact c_crew_most x0) hy10) (.free (Ctr.sim (.cons (Sim.rp_po hc11) .nil) (c_crew_plan__count fuel (y9.getD default) hy13)) .nil)))) (At.keep (ts := [2, 3]) (ids := [2]) rfl rfl ?_)
   refine At.thenC ?_
   refine W.ret ?_
   cases H
   exact At.ret env.ty rfl rfl (fun q hq => by cases hq) (.refl _) hval
theorem c_crew_plan__isRound (p0 : crew_plan) (p1 : (List Int)) {r : Bool} (H : crew_plan__isRound p0 p1 = some r) : Ctr Try.prog 102 [.rp [roL 4 enc_Task p0.Crew.Tasks, roL 1 enc_ListRange p0.Crew.Travel, roL 3 enc_Hand p0.Crew.Hands, roL 1 enc_Int p0.next], roL 1 enc_Int p1] (.bool (r)) := by
 unfold crew_plan__isRound at H
 refine Ctr.of_body (N := 48) Try.func102 (by kernel_rfl) (c := _) rfl Try.ntmps102 rfl (fun w0 h0 hval => ?_)
 refine W.rg env [0, 1] [] ?_
 refine W.seq ?_
 refine W.rg env [0, 1, 7, 8, 9] [] ?_
 refine W.block ?_
 refine At.keep (ts := [0, 1, 7, 8, 9]) (ids := []) rfl rfl ?_
 refine W.len (t := 7) rfl (fun (hn1 : p1.length ≤ maxLen) => ?_)
 refine W.rangeGo H (fun i1 (s1 : Unit) => [(0, .rp [roL 4 enc_Task p0.Crew.Tasks, roL 1 enc_ListRange p0.Crew.Travel, roL 3 enc_Hand p0.Crew.Hands, roL 1 enc_Int p0.next]), (1, roL 1 enc_Int p1), (7, roL 1 enc_Int p1), (8, .int .i64 (((p1.length : Nat) : Int))), (9, .int .i64 ((i1 : Int)))]) (fun i1 (s1 : Unit) => []) (.cons .q (.cons .q (.cons .q (.cons .qi (.cons .qi .nil))))) .nil (fun k1 i1 s1 hle1 H1 H2 K0 hK1 => ?_)
 refine W.rg env [0, 1, 7, 8, 9, 10] [] ?_
 refine W.seq ?_
 refine W.cond rfl (fun hb2 => ?_) (fun hb2 => ?_)
 · have hi1 : i1 < p1.length := by have := of_decide_eq_true hb2; omega
   have H := H1 hi1
   refine W.skip ?_
   refine At.thenC ?_
   refine W.seq ?_
   refine W.block ?_
   refine W.sr env [] [] [0, 1, 5, 6, 7, 8, 9] [] rfl rfl rfl (.cons (⟨by omega, by omega⟩ : 0 ≤ (i1 : Int) ∧ (i1 : Int) < ((p1.length : Nat) : Int)) .nil) .nil ?_
   obtain ⟨hc3, H⟩ := of_must H
   obtain ⟨hc4, H⟩ := of_must H
   obtain ⟨hc5, H⟩ := of_must H
   obtain ⟨hc6, H⟩ := of_must H
   obtain ⟨hc7, H⟩ := of_must H
   obtain ⟨hc8, H⟩ := of_must H
   refine W.sr env [] [⟨.bool ((crew_in (p1.getD i1 default) 0 (((p0.next.length : Nat) : Int) - 1))), [], 0, []⟩] [0, 1, 7, 8, 9, 43] [] rfl rfl (by kernel_rfl) (.cons hc3 (.cons (fun h => h) (.cons (fun h => h) (.cons (fun h => h) (.cons (fun h => h) (.cons (fun h => h) (.cons hc4 (.cons (fun h => h) (.cons hc5 (.cons (fun h => h) (.cons (fun h => h) (.cons (fun h => h) (.cons hc6 (.cons (fun h => h) (.cons (fun h => h) (.cons (fun h => h) (.cons hc7 (.cons (fun h => h) (.cons (fun h => h) (.cons hc8 (.cons (fun h => h) (.cons (fun h => h) (.cons (fun h => h) (.cons (fun hW h => by revert hW h; first | (simp +contextual; done) | grind) (.cons (fun h => by rw [h]; rfl) .nil))))))))))))))))))))))))) (.free (c_crew_in (p1.getD i1 default) 0 (((p0.next.length : Nat) : Int) - 1)) .nil) ?_
   refine W.cond rfl (fun hb9 => ?_) (fun hb9 => ?_)
   · have H := of_true H hb9
     refine W.rg env [4] [] ?_
     refine W.ret ?_
     refine At.rinb ?_
     refine At.rthen ?_
     refine At.rthen ?_
     refine At.rinb ?_
     refine At.rthen ?_
     cases H
     exact At.ret env.ty rfl rfl (fun q hq => by cases hq) (.refl _) hval
   · have H := of_false H hb9
     refine W.skip ?_
     refine At.inb ?_
     refine At.thenC ?_
     refine W.region env [] [] rfl rfl rfl (.cons (by unfold inI; have := hn1; (try unfold maxLen at this); omega) .nil) .nil (At.keep (ts := [0, 1, 7, 8, 9]) (ids := []) rfl rfl ?_)
     refine At.thenK (At.keep (ts := [0, 1, 7, 8, 9]) (ids := []) rfl rfl ?_)
     exact At.conv (.cons .q (.cons .q (.cons .q (.cons .qi (.cons .qi .nil))))) .nil (hK1 hi1 () H)
 · have H := H2 (by have := of_decide_eq_false hb2; omega)
   refine W.exit ?_
   refine At.xthen ?_
   refine At.xthen ?_
   refine At.xhere ?_
   refine At.thenC ?_
   refine W.rg env [4] [] ?_
   refine W.ret ?_
   cases H
   exact At.ret env.ty rfl rfl (fun q hq => by cases hq) (.refl _) hval
theorem c_crew_plan__areRounds (p0 : crew_plan) (p1 : (List (List Int))) {r : Bool} (H : crew_plan__areRounds p0 p1 = some r) : Ctr Try.prog 91 [.rp [roL 4 enc_Task p0.Crew.Tasks, roL 1 enc_ListRange p0.Crew.Travel, roL 3 enc_Hand p0.Crew.Hands, roL 1 enc_Int p0.next], roL 1 enc_ListInt p1] (.bool (r)) := by
 unfold crew_plan__areRounds at H
 refine Ctr.of_body (N := 64) Try.func91 (by kernel_rfl) (c := _) rfl Try.ntmps91 rfl (fun w0 h0 hval => ?_)
 refine W.rg env [0, 1] [] ?_
 refine W.rg env [0, 1, 5] [] ?_
 refine W.seq ?_
 refine W.rg env [0, 1, 5, 10, 11, 12] [] ?_
 refine W.block ?_
 refine At.keep (ts := [0, 1, 5, 10, 11, 12]) (ids := []) rfl rfl ?_
 refine W.len (t := 10) rfl (fun (hn1 : p1.length ≤ maxLen) => ?_)
 refine W.rangeGo H (fun i1 (s1 : Int) => [(0, .rp [roL 4 enc_Task p0.Crew.Tasks, roL 1 enc_ListRange p0.Crew.Travel, roL 3 enc_Hand p0.Crew.Hands, roL 1 enc_Int p0.next]), (1, roL 1 enc_ListInt p1), (5, .int .i64 (s1)), (10, roL 1 enc_ListInt p1), (11, .int .i64 (((p1.length : Nat) : Int))), (12, .int .i64 ((i1 : Int)))]) (fun i1 (s1 : Int) => []) (.cons .q (.cons .q (.cons .qi (.cons .q (.cons .qi (.cons .qi .nil)))))) .nil (fun k1 i1 s1 hle1 H1 H2 K0 hK1 => ?_)
 refine W.rg env [0, 1, 5, 10, 11, 12, 13] [] ?_
 refine W.seq ?_
 refine W.cond rfl (fun hb2 => ?_) (fun hb2 => ?_)
 · have hi1 : i1 < p1.length := by have := of_decide_eq_true hb2; omega
   have H := H1 hi1
   refine W.skip ?_
   refine At.thenC ?_
   refine W.seq ?_
   refine W.block ?_
   refine W.sr env [] [] [0, 1, 5, 6, 7, 10, 11, 12] [] rfl rfl rfl (.cons (⟨by omega, by omega⟩ : 0 ≤ (i1 : Int) ∧ (i1 : Int) < ((p1.length : Nat) : Int)) .nil) .nil ?_
   refine W.seq ?_
   refine W.seq ?_
   obtain ⟨y3, hy4, H⟩ := of_bindO H
   obtain ⟨hc5, H⟩ := of_must H
   obtain ⟨hc6, H⟩ := of_must H
   obtain ⟨hc7, H⟩ := of_must H
   obtain ⟨hc8, H⟩ := of_must H
   refine W.region env [] [⟨.bool (y3), [], 0, []⟩] rfl rfl (by kernel_rfl) (.cons (fun h => h) (.cons (fun h => h) (.cons hc5 (.cons (fun h => h) (.cons hc6 (.cons (fun h => h) (.cons (fun h => h) (.cons (fun h => h) (.cons hc7 (.cons (fun h => h) (.cons (fun h => h) (.cons hc8 (.cons (fun h => h) (.cons (fun h => h) (.cons (fun h => h) (.cons (fun h => h) (.cons (fun h => h) (.cons (fun hW h => by revert hW h; first | (simp +contextual; done) | grind) (.cons (fun h => by rw [h]; rfl) .nil))))))))))))))))))) (.free (c_crew_plan__isRound p0 (p1.getD i1 default) hy4) .nil) (At.keep (ts := [0, 1, 5, 7, 10, 11, 12, 37]) (ids := []) rfl rfl ?_)
   refine At.thenC ?_
   refine W.cond rfl (fun hb9 => ?_) (fun hb9 => ?_)
   · have H := of_true H hb9
     refine W.rg env [4] [] ?_
     refine W.ret ?_
     refine At.rthen ?_
     refine At.rinb ?_
     refine At.rthen ?_
     refine At.rthen ?_
     refine At.rinb ?_
     refine At.rthen ?_
     cases H
     exact At.ret env.ty rfl rfl (fun q hq => by cases hq) (.refl _) hval
   · have H := of_false H hb9
     refine W.skip ?_
     refine At.thenC ?_
     refine W.rg env [0, 1, 5, 10, 11, 12, 38, 39, 40] [] ?_
     refine W.block ?_
     refine At.keep (ts := [0, 1, 5, 10, 11, 12, 38, 39, 40]) (ids := []) rfl rfl ?_
     refine W.len (t := 38) rfl (fun (hn10 : (p1.getD i1 default).length ≤ maxLen) => ?_)
     refine W.rangeGo H (fun i10 (s10 : Int) => [(0, .rp [roL 4 enc_Task p0.Crew.Tasks, roL 1 enc_ListRange p0.Crew.Travel, roL 3 enc_Hand p0.Crew.Hands, roL 1 enc_Int p0.next]), (1, roL 1 enc_ListInt p1), (5, .int .i64 (s10)), (10, roL 1 enc_ListInt p1), (11, .int .i64 (((p1.length : Nat) : Int))), (12, .int .i64 ((i1 : Int))), (38, roL 1 enc_Int (p1.getD i1 default)), (39, .int .i64 ((((p1.getD i1 default).length : Nat) : Int))), (40, .int .i64 ((i10 : Int)))]) (fun i10 (s10 : Int) => []) (.cons .q (.cons .q (.cons .qi (.cons .q (.cons .qi (.cons .qi (.cons .q (.cons .qi (.cons .qi .nil))))))))) .nil (fun k10 i10 s10 hle10 H1 H2 K0 hK10 => ?_)
     refine W.rg env [0, 1, 5, 10, 11, 12, 38, 39, 40, 41] [] ?_
     refine W.seq ?_
     refine W.cond rfl (fun hb11 => ?_) (fun hb11 => ?_)
     · have hi10 : i10 < (p1.getD i1 default).length := by have := of_decide_eq_true hb11; omega
       have H := H1 hi10
       refine W.skip ?_
       refine At.thenC ?_
       refine W.seq ?_
       refine W.block ?_
       refine W.sr env [] [] [0, 1, 5, 9, 10, 11, 12, 38, 39, 40] [] rfl rfl rfl (.cons (⟨by omega, by omega⟩ : 0 ≤ (i10 : Int) ∧ (i10 : Int) < (((p1.getD i1 default).length : Nat) : Int)) .nil) .nil ?_
       refine W.seq ?_
       obtain ⟨hc12, H⟩ := of_must H
       obtain ⟨hc13, H⟩ := of_must H
       refine W.sr env [] [] [0, 1, 5, 9, 10, 11, 12, 38, 39, 40, 48] [] rfl rfl rfl (.cons hc12 (.cons hc13 .nil)) .nil ?_
       refine W.cond rfl (fun hb14 => ?_) (fun hb14 => ?_)
       · have H := of_true H hb14
         refine W.rg env [4] [] ?_
         refine W.ret ?_
         refine At.rthen ?_
         refine At.rinb ?_
         refine At.rthen ?_
         refine At.rthen ?_
         refine At.rinb ?_
         refine At.rinb ?_
         refine At.rthen ?_
         refine At.rthen ?_
         refine At.rinb ?_
         refine At.rthen ?_
         cases H
         exact At.ret env.ty rfl rfl (fun q hq => by cases hq) (.refl _) hval
       · have H := of_false H hb14
         refine W.skip ?_
         refine At.thenC ?_
         obtain ⟨hc15, H⟩ := of_must H
         obtain ⟨hc16, H⟩ := of_must H
         refine W.region env [] [] rfl rfl rfl (.cons hc15 (.cons hc16 .nil)) .nil (At.keep (ts := [0, 1, 5, 10, 11, 12, 38, 39, 40]) (ids := []) rfl rfl ?_)
         refine At.inb ?_
         refine At.thenC ?_
         refine W.region env [] [] rfl rfl rfl (.cons (by unfold inI; have := hn10; (try unfold maxLen at this); omega) .nil) .nil (At.keep (ts := [0, 1, 5, 10, 11, 12, 38, 39, 40]) (ids := []) rfl rfl ?_)
         refine At.thenK (At.keep (ts := [0, 1, 5, 10, 11, 12, 38, 39, 40]) (ids := []) rfl rfl ?_)
         exact At.conv (.cons .q (.cons .q (.cons .qi (.cons .q (.cons .qi (.cons .qi (.cons .q (.cons .qi (.cons .qi .nil))))))))) .nil (hK10 hi10 (((s10 : Int).toNat ||| (((1 : Int) * 2 ^ (((p1.getD i1 default).getD i10 default) : Int).toNat) : Int).toNat : Nat) : Int) H)
     · have H := H2 (by have := of_decide_eq_false hb11; omega)
       refine W.exit ?_
       refine At.xthen ?_
       refine At.xthen ?_
       refine At.xhere ?_
       refine At.inb ?_
       refine At.thenC ?_
       refine W.region env [] [] rfl rfl rfl (.cons (by unfold inI; have := hn1; (try unfold maxLen at this); omega) .nil) .nil (At.keep (ts := [0, 1, 5, 10, 11, 12]) (ids := []) rfl rfl ?_)
       refine At.thenK (At.keep (ts := [0, 1, 5, 10, 11, 12]) (ids := []) rfl rfl ?_)
       exact At.conv (.cons .q (.cons .q (.cons .qi (.cons .q (.cons .qi (.cons .qi .nil)))))) .nil (hK1 hi1 s10 H)
 · have H := H2 (by have := of_decide_eq_false hb2; omega)
   refine W.exit ?_
   refine At.xthen ?_
   refine At.xthen ?_
   refine At.xhere ?_
   refine At.thenC ?_
   obtain ⟨hc17, H⟩ := of_must H
   obtain ⟨hc18, H⟩ := of_must H
   refine W.sr env [] [] [4] [] rfl rfl rfl (.cons hc17 (.cons hc18 .nil)) .nil ?_
   refine W.ret ?_
   cases H
   exact At.ret env.ty rfl rfl (fun q hq => by cases hq) (.refl _) hval
theorem c_crew_asked (p0 : Crew) (p1 : (List (List Int))) {r : ((Option crew_plan) × Int)} (H : crew_asked p0 p1 = some r) : Ctr Try.prog 44 [.agg [roL 4 enc_Task p0.Tasks, roL 1 enc_ListRange p0.Travel, roL 3 enc_Hand p0.Hands], roL 1 enc_ListInt p1] (.tup [.po r.1.isSome [roL 4 enc_Task ((r.1.getD default).Crew.Tasks), roL 1 enc_ListRange ((r.1.getD default).Crew.Travel), roL 3 enc_Hand ((r.1.getD default).Crew.Hands), roL 1 enc_Int ((r.1.getD default).next)], .int .i64 (r.2)]) := by
 unfold crew_asked at H
 refine Ctr.of_body (N := 20) Try.func44 (by kernel_rfl) (c := _) rfl Try.ntmps44 rfl (fun w0 h0 hval => ?_)
 refine W.rg env [1, 2] [2] ?_
 refine W.seq ?_
 refine W.seq ?_
 obtain ⟨y1, hy2, H⟩ := of_bindO H
 refine W.region env [] [⟨.int .i64 (y1), [], 0, []⟩] rfl rfl rfl .nil (.free (c_crew_Check p0 hy2) .nil) (At.keep (ts := [1, 2, 6]) (ids := [2]) rfl rfl ?_)
 refine At.thenC ?_
 refine W.rg env [1, 2, 6, 11] [2] ?_
 refine W.cond rfl (fun hb3 => ?_) (fun hb3 => ?_)
 · have H := of_true H hb3
   refine W.rg env [4, 5] [] ?_
   refine W.ret ?_
   refine At.rthen ?_
   cases H
   exact At.ret env.ty rfl rfl (fun q hq => by cases hq) (Sim.tupL (.cons (Sim.po_nil rfl) (.cons (.refl _) .nil))) hval
 · have H := of_false H hb3
   refine W.skip ?_
   refine At.thenC ?_
   refine W.seq ?_
   obtain ⟨y4, hy5, H⟩ := of_bindO H
   refine W.region env [] [⟨.po y4.isSome [roL 4 enc_Task ((y4.getD default).Crew.Tasks), roL 1 enc_ListRange ((y4.getD default).Crew.Travel), roL 3 enc_Hand ((y4.getD default).Crew.Hands), roL 1 enc_Int ((y4.getD default).next)], [], 0, []⟩] rfl rfl rfl .nil (.free (c_crew_newPlan p0 (fun x0 => some (crew_most x0)) 46 [] [] (fun x0 r h => by cases h; exact c_crew_most x0) hy5) .nil) (At.keep (ts := [1, 7]) (ids := []) rfl rfl ?_)
   refine At.thenC ?_
   refine W.seq ?_
   refine W.seq ?_
   obtain ⟨hc6, H⟩ := of_must H
   obtain ⟨y7, hy8, H⟩ := of_bindO H
   refine W.region env [] [⟨.bool (y7), [], 0, []⟩] rfl rfl rfl .nil (.free (Ctr.sim (.cons (Sim.rp_po hc6) (.cons (.refl _) .nil)) (c_crew_plan__areRounds (y4.getD default) p1 hy8)) .nil) (At.keep (ts := [7, 18]) (ids := []) rfl rfl ?_)
   refine At.thenC ?_
   refine W.cond rfl (fun hb9 => ?_) (fun hb9 => ?_)
   · have H := of_true H hb9
     refine W.rg env [4, 5] [] ?_
     refine W.ret ?_
     refine At.rthen ?_
     cases H
     exact At.ret env.ty rfl rfl (fun q hq => by cases hq) (Sim.tupL (.cons (Sim.po_nil rfl) (.cons (.refl _) .nil))) hval
   · have H := of_false H hb9
     refine W.skip ?_
     refine At.thenC ?_
     refine W.rg env [4, 5] [] ?_
     refine W.ret ?_
     cases H
     exact At.ret env.ty rfl rfl (fun q hq => by cases hq) (.refl _) hval
theorem c_crew_Slack (fuel : Nat) (p0 : Crew) (p1 : (List (List Int))) {r : (Int × Int)} (H : crew_Slack fuel p0 p1 = some r) : Ctr Try.prog 9 [.agg [roL 4 enc_Task p0.Tasks, roL 1 enc_ListRange p0.Travel, roL 3 enc_Hand p0.Hands], roL 1 enc_ListInt p1] (.tup [.int .i64 (r.1), .int .i64 (r.2)]) := by
 unfold crew_Slack at H
 refine Ctr.of_body (N := 57) Try.func9 (by kernel_rfl) (c := _) rfl Try.ntmps9 rfl (fun w0 h0 hval => ?_)
 refine W.rg env [1, 2] [2] ?_
 refine W.seq ?_
 refine W.seq ?_
 obtain ⟨y1, hy2, H⟩ := of_bindO H
 refine W.region env [] [⟨.tup [.po y1.1.isSome [roL 4 enc_Task ((y1.1.getD default).Crew.Tasks), roL 1 enc_ListRange ((y1.1.getD default).Crew.Travel), roL 3 enc_Hand ((y1.1.getD default).Crew.Hands), roL 1 enc_Int ((y1.1.getD default).next)], .int .i64 (y1.2)], [], 0, []⟩] rfl rfl rfl .nil (.free (c_crew_asked p0 p1 hy2) .nil) (At.keep (ts := [1, 2, 7]) (ids := [2]) rfl rfl ?_)
 refine At.thenC ?_
 refine W.rg env [1, 2, 7, 20] [2] ?_
 refine W.cond rfl (fun hb3 => ?_) (fun hb3 => ?_)
 · have H := of_true H hb3
   refine W.rg env [4, 5] [] ?_
   refine W.ret ?_
   refine At.rthen ?_
   cases H
   exact At.ret env.ty rfl rfl (fun q hq => by cases hq) (.refl _) hval
 · have H := of_false H hb3
   refine W.skip ?_
   refine At.thenC ?_
   refine W.rg env [1, 2, 8] [2] ?_
   refine W.seq ?_
   refine W.rg env [2, 8, 22, 23, 24] [2] ?_
   refine W.block ?_
   refine At.keep (ts := [2, 8, 22, 23, 24]) (ids := [2]) rfl rfl ?_
   refine W.len (t := 22) rfl (fun (hn4 : p1.length ≤ maxLen) => ?_)
   refine W.rangeGo H (fun i4 (s4 : Int) => [(2, .lp 2 0), (8, .int .i64 (s4)), (22, roL 1 enc_ListInt p1), (23, .int .i64 (((p1.length : Nat) : Int))), (24, .int .i64 ((i4 : Int)))]) (fun i4 (s4 : Int) => [(2, .cells [roL 4 enc_Task p0.Tasks, roL 1 enc_ListRange p0.Travel, roL 3 enc_Hand p0.Hands])]) (.cons .q (.cons .qi (.cons .q (.cons .qi (.cons .qi .nil))))) (.cons .q .nil) (fun k4 i4 s4 hle4 H1 H2 K0 hK4 => ?_)
   refine W.rg env [2, 8, 22, 23, 24, 25] [2] ?_
   refine W.seq ?_
   refine W.cond rfl (fun hb5 => ?_) (fun hb5 => ?_)
   · have hi4 : i4 < p1.length := by have := of_decide_eq_true hb5; omega
     have H := H1 hi4
     refine W.skip ?_
     refine At.thenC ?_
     refine W.seq ?_
     refine W.block ?_
     refine W.sr env [] [] [2, 8, 10, 22, 23, 24] [2] rfl rfl rfl (.cons (⟨by omega, by omega⟩ : 0 ≤ (i4 : Int) ∧ (i4 : Int) < ((p1.length : Nat) : Int)) .nil) .nil ?_
     refine W.rg env [2, 8, 10, 11, 22, 23, 24] [2] ?_
     refine W.block ?_
     refine At.keep (ts := [2, 8, 10, 11, 22, 23, 24]) (ids := [2]) rfl rfl ?_
     refine W.loopGo H (fun (s6 : Int × Int) => [(2, .lp 2 0), (8, .int .i64 (s6.2)), (10, roL 1 enc_Int (p1.getD i4 default)), (11, .int .i64 (s6.1)), (22, roL 1 enc_ListInt p1), (23, .int .i64 (((p1.length : Nat) : Int))), (24, .int .i64 ((i4 : Int)))]) (fun (s6 : Int × Int) => [(2, .cells [roL 4 enc_Task p0.Tasks, roL 1 enc_ListRange p0.Travel, roL 3 enc_Hand p0.Hands])]) (.cons .q (.cons .qi (.cons .q (.cons .qi (.cons .q (.cons .qi (.cons .qi .nil))))))) (.cons .q .nil) (fun k6 s6 H K0 hK6 => ?_)
     refine W.seq ?_
     refine W.rg env [2, 8, 10, 11, 22, 23, 24, 31] [2] ?_
     refine W.cond rfl (fun hb7 => ?_) (fun hb7 => ?_)
     · have H := of_true H hb7
       refine W.skip ?_
       refine At.thenC ?_
       refine W.seq ?_
       refine W.block ?_
       refine W.seq ?_
       obtain ⟨hc8, H⟩ := of_must H
       obtain ⟨hc9, H⟩ := of_must H
       obtain ⟨hc10, H⟩ := of_must H
       obtain ⟨y11, hy12, H⟩ := of_bindO H
       refine W.region env [] [⟨.int .i64 (y11), [], 0, []⟩] rfl rfl (by kernel_rfl) (.cons hc8 (.cons hc9 (.cons hc10 .nil))) (.free (c_crew_spare p0 ((p1.getD i4 default).getD ((s6.1 - 1)).toNat default) ((p1.getD i4 default).getD (s6.1).toNat default) (fun x0 => some (crew_most x0)) 46 [] [] (fun x0 r h => by cases h; exact c_crew_most x0) hy12) .nil) (At.keep (ts := [2, 8, 10, 11, 12, 22, 23, 24]) (ids := [2]) rfl rfl ?_)
       refine At.thenC ?_
       refine W.sr env [] [] [2, 8, 10, 11, 12, 22, 23, 24, 51] [2] rfl rfl rfl (.cons (fun h => h) (.cons (fun h => h) (.cons (fun h => by rw [h]; rfl) .nil))) .nil ?_
       refine W.cond rfl (fun hb13 => ?_) (fun hb13 => ?_)
       · have H := of_true H hb13
         refine W.region env [] [] rfl rfl rfl .nil .nil (At.keep (ts := [2, 8, 10, 11, 22, 23, 24]) (ids := [2]) rfl rfl ?_)
         refine At.inb ?_
         refine At.thenC ?_
         obtain ⟨hc14, H⟩ := of_must H
         refine W.region env [] [] rfl rfl rfl (.cons hc14 .nil) .nil (At.keep (ts := [2, 8, 10, 11, 22, 23, 24]) (ids := [2]) rfl rfl ?_)
         refine At.thenK (At.keep (ts := [2, 8, 10, 11, 22, 23, 24]) (ids := [2]) rfl rfl ?_)
         exact At.conv (.cons .q (.cons .qi (.cons .q (.cons .qi (.cons .q (.cons .qi (.cons .qi .nil))))))) (.cons .q .nil) (hK6 ((s6.1 + 1), y11) H)
       · have H := of_false H hb13
         refine W.skip ?_
         refine At.inb ?_
         refine At.thenC ?_
         obtain ⟨hc15, H⟩ := of_must H
         refine W.region env [] [] rfl rfl rfl (.cons hc15 .nil) .nil (At.keep (ts := [2, 8, 10, 11, 22, 23, 24]) (ids := [2]) rfl rfl ?_)
         refine At.thenK (At.keep (ts := [2, 8, 10, 11, 22, 23, 24]) (ids := [2]) rfl rfl ?_)
         exact At.conv (.cons .q (.cons .qi (.cons .q (.cons .qi (.cons .q (.cons .qi (.cons .qi .nil))))))) (.cons .q .nil) (hK6 ((s6.1 + 1), s6.2) H)
     · have H := of_false H hb7
       refine W.exit ?_
       refine At.xthen ?_
       refine At.xthen ?_
       refine At.xhere ?_
       refine At.inb ?_
       refine At.thenC ?_
       refine W.region env [] [] rfl rfl rfl (.cons (by unfold inI; have := hn4; (try unfold maxLen at this); omega) .nil) .nil (At.keep (ts := [2, 8, 22, 23, 24]) (ids := [2]) rfl rfl ?_)
       refine At.thenK (At.keep (ts := [2, 8, 22, 23, 24]) (ids := [2]) rfl rfl ?_)
       exact At.conv (.cons .q (.cons .qi (.cons .q (.cons .qi (.cons .qi .nil))))) (.cons .q .nil) (hK4 hi4 s6.2 H)
   · have H := H2 (by have := of_decide_eq_false hb5; omega)
     refine W.exit ?_
     refine At.xthen ?_
     refine At.xthen ?_
     refine At.xhere ?_
     refine At.thenC ?_
     refine W.seq ?_
     refine W.rg env [8, 55] [] ?_
     refine W.cond rfl (fun hb16 => ?_) (fun hb16 => ?_)
     · have H := of_true H hb16
       refine W.rg env [4, 5] [] ?_
       refine W.ret ?_
       refine At.rthen ?_
       cases H
       exact At.ret env.ty rfl rfl (fun q hq => by cases hq) (.refl _) hval
     · have H := of_false H hb16
       refine W.skip ?_
       refine At.thenC ?_
       refine W.rg env [4, 5] [] ?_
       refine W.ret ?_
       cases H
       exact At.ret env.ty rfl rfl (fun q hq => by cases hq) (.refl _) hval
theorem c_slices_IndexFunc_int (p0 : (List Int)) (p1 : Int → Option Bool) (p1_g : Nat) (p1_a p1_b : List AV) (p1_h : ∀ x0 r, p1 x0 = some r → Ctr Try.prog p1_g (p1_a ++ ([.int .i64 (x0)] ++ p1_b)) (.bool (r))) {r : Int} (H : slices_IndexFunc_int p0 p1 = some r) : Ctr Try.prog 101 [roL 1 enc_Int p0, .clo (.func p1_g) p1_a p1_b] (.int .i64 (r)) := by
 unfold slices_IndexFunc_int at H
 refine Ctr.of_body (N := 19) Try.func101 (by kernel_rfl) (c := _) rfl Try.ntmps101 rfl (fun w0 h0 hval => ?_)
 refine W.rg env [0, 1] [] ?_
 refine W.seq ?_
 refine W.rg env [0, 1, 7, 8] [] ?_
 refine W.block ?_
 refine At.keep (ts := [0, 1, 7, 8]) (ids := []) rfl rfl ?_
 refine W.len (t := 0) rfl (fun (hn1 : p0.length ≤ maxLen) => ?_)
 refine W.rangeGo H (fun i1 (s1 : Unit) => [(0, roL 1 enc_Int p0), (1, .clo (.func p1_g) p1_a p1_b), (7, .int .i64 (((p0.length : Nat) : Int))), (8, .int .i64 ((i1 : Int)))]) (fun i1 (s1 : Unit) => []) (.cons .q (.cons .q (.cons .qi (.cons .qi .nil)))) .nil (fun k1 i1 s1 hle1 H1 H2 K0 hK1 => ?_)
 refine W.rg env [0, 1, 7, 8, 9] [] ?_
 refine W.seq ?_
 refine W.cond rfl (fun hb2 => ?_) (fun hb2 => ?_)
 · have hi1 : i1 < p0.length := by have := of_decide_eq_true hb2; omega
   have H := H1 hi1
   refine W.skip ?_
   refine At.thenC ?_
   refine W.seq ?_
   refine W.block ?_
   refine W.rg env [0, 1, 5, 7, 8] [] ?_
   refine W.seq ?_
   obtain ⟨y3, hy4, H⟩ := of_bindO H
   refine W.region env [] [⟨.bool (y3), [], 0, []⟩] rfl rfl rfl (.cons (⟨by omega, by omega⟩ : 0 ≤ (i1 : Int) ∧ (i1 : Int) < ((p0.length : Nat) : Int)) .nil) (.free (p1_h (p0.getD i1 default) _ hy4) .nil) (At.keep (ts := [0, 1, 5, 7, 8, 16]) (ids := []) rfl rfl ?_)
   refine At.thenC ?_
   refine W.cond rfl (fun hb5 => ?_) (fun hb5 => ?_)
   · have H := of_true H hb5
     refine W.rg env [4] [] ?_
     refine W.ret ?_
     refine At.rinb ?_
     refine At.rthen ?_
     refine At.rthen ?_
     refine At.rinb ?_
     refine At.rthen ?_
     cases H
     exact At.ret env.ty rfl rfl (fun q hq => by cases hq) (.refl _) hval
   · have H := of_false H hb5
     refine W.skip ?_
     refine At.inb ?_
     refine At.thenC ?_
     refine W.region env [] [] rfl rfl rfl (.cons (by unfold inI; have := hn1; (try unfold maxLen at this); omega) .nil) .nil (At.keep (ts := [0, 1, 7, 8]) (ids := []) rfl rfl ?_)
     refine At.thenK (At.keep (ts := [0, 1, 7, 8]) (ids := []) rfl rfl ?_)
     exact At.conv (.cons .q (.cons .q (.cons .qi (.cons .qi .nil)))) .nil (hK1 hi1 () H)
 · have H := H2 (by have := of_decide_eq_false hb2; omega)
   refine W.exit ?_
   refine At.xthen ?_
   refine At.xthen ?_
   refine At.xhere ?_
   refine At.thenC ?_
   refine W.rg env [4] [] ?_
   refine W.ret ?_
   cases H
   exact At.ret env.ty rfl rfl (fun q hq => by cases hq) (.refl _) hval
theorem c_slices_ContainsFunc_int (p0 : (List Int)) (p1 : Int → Option Bool) (p1_g : Nat) (p1_a p1_b : List AV) (p1_h : ∀ x0 r, p1 x0 = some r → Ctr Try.prog p1_g (p1_a ++ ([.int .i64 (x0)] ++ p1_b)) (.bool (r))) {r : Bool} (H : slices_ContainsFunc_int p0 p1 = some r) : Ctr Try.prog 77 [roL 1 enc_Int p0, .clo (.func p1_g) p1_a p1_b] (.bool (r)) := by
 unfold slices_ContainsFunc_int at H
 refine Ctr.of_body (N := 9) Try.func77 (by kernel_rfl) (c := _) rfl Try.ntmps77 rfl (fun w0 h0 hval => ?_)
 refine W.rg env [0, 1] [] ?_
 refine W.seq ?_
 obtain ⟨y1, hy2, H⟩ := of_bindO H
 refine W.region env [] [⟨.int .i64 (y1), [], 0, []⟩] rfl rfl rfl .nil (.free (c_slices_IndexFunc_int p0 p1 p1_g p1_a p1_b p1_h hy2) .nil) (At.keep (ts := [4]) (ids := []) rfl rfl ?_)
 refine At.thenC ?_
 refine W.ret ?_
 cases H
 exact At.ret env.ty rfl rfl (fun q hq => by cases hq) (.refl _) hval
theorem c_crew_areWalks_1 (p0 : Int) : Ctr Try.prog 92 [.int .i64 (p0)] (.bool ((crew_areWalks_1 p0))) := by
 obtain ⟨r, H⟩ : ∃ r, crew_areWalks_1 p0 = r := ⟨_, rfl⟩
 rw [H]
 unfold crew_areWalks_1 at H
 refine Ctr.of_body (N := 6) Try.func92 (by kernel_rfl) (c := _) rfl Try.ntmps92 rfl (fun w0 h0 hval => ?_)
 refine W.rg env [0] [] ?_
 refine W.sr env [] [⟨.bool ((crew_in p0 0 600)), [], 0, []⟩] [2] [] rfl rfl rfl .nil (.free (c_crew_in p0 0 600) .nil) ?_
 refine W.ret ?_
 cases H
 exact At.ret env.ty rfl rfl (fun q hq => by cases hq) (.refl _) hval
theorem c_crew_areWalks (p0 : (List (List Int))) (p1 : (List (List Int))) {r : Bool} (H : crew_areWalks p0 p1 = some r) : Ctr Try.prog 47 [roL 1 enc_ListInt p0, roL 1 enc_ListInt p1] (.bool (r)) := by
 unfold crew_areWalks at H
 refine Ctr.of_body (N := 33) Try.func47 (by kernel_rfl) (c := _) rfl Try.ntmps47 rfl (fun w0 h0 hval => ?_)
 refine W.rg env [0, 1] [] ?_
 refine W.seq ?_
 refine W.rg env [0, 1, 11] [] ?_
 refine W.cond rfl (fun hb1 => ?_) (fun hb1 => ?_)
 · have H := of_true H hb1
   refine W.rg env [4] [] ?_
   refine W.ret ?_
   refine At.rthen ?_
   cases H
   exact At.ret env.ty rfl rfl (fun q hq => by cases hq) (.refl _) hval
 · have H := of_false H hb1
   refine W.skip ?_
   refine At.thenC ?_
   refine W.seq ?_
   refine W.rg env [0, 12, 13, 14] [] ?_
   refine W.block ?_
   refine At.keep (ts := [0, 12, 13, 14]) (ids := []) rfl rfl ?_
   refine W.len (t := 12) rfl (fun (hn2 : p1.length ≤ maxLen) => ?_)
   refine W.rangeGo H (fun i2 (s2 : Unit) => [(0, roL 1 enc_ListInt p0), (12, roL 1 enc_ListInt p1), (13, .int .i64 (((p1.length : Nat) : Int))), (14, .int .i64 ((i2 : Int)))]) (fun i2 (s2 : Unit) => []) (.cons .q (.cons .q (.cons .qi (.cons .qi .nil)))) .nil (fun k2 i2 s2 hle2 H1 H2 K0 hK2 => ?_)
   refine W.rg env [0, 12, 13, 14, 15] [] ?_
   refine W.seq ?_
   refine W.cond rfl (fun hb3 => ?_) (fun hb3 => ?_)
   · have hi2 : i2 < p1.length := by have := of_decide_eq_true hb3; omega
     have H := H1 hi2
     refine W.skip ?_
     refine At.thenC ?_
     refine W.seq ?_
     refine W.block ?_
     refine W.sr env [] [] [0, 5, 6, 12, 13, 14] [] rfl rfl rfl (.cons (⟨by omega, by omega⟩ : 0 ≤ (i2 : Int) ∧ (i2 : Int) < ((p1.length : Nat) : Int)) .nil) .nil ?_
     refine W.seq ?_
     obtain ⟨hc4, H⟩ := of_must H
     obtain ⟨hc5, H⟩ := of_must H
     obtain ⟨y6, hy7, H⟩ := of_bindO H
     refine W.region env [] [⟨.bool (y6), [], 0, []⟩] rfl rfl rfl (.cons hc4 (.cons hc5 (.cons (fun h => h) (.cons (fun h => by rw [h]; rfl) .nil)))) (.on (fun hW => c_slices_ContainsFunc_int (p1.getD i2 default) (fun x0 => some (crew_areWalks_1 x0)) 92 [] [] (fun x0 r h => by cases h; exact c_crew_areWalks_1 x0) (of_true hy7 hW)) .nil) (At.keep (ts := [0, 12, 13, 14, 31]) (ids := []) rfl rfl ?_)
     refine At.thenC ?_
     refine W.cond rfl (fun hb8 => ?_) (fun hb8 => ?_)
     · have H := of_true H hb8
       refine W.rg env [4] [] ?_
       refine W.ret ?_
       refine At.rinb ?_
       refine At.rthen ?_
       refine At.rthen ?_
       refine At.rinb ?_
       refine At.rthen ?_
       cases H
       exact At.ret env.ty rfl rfl (fun q hq => by cases hq) (.refl _) hval
     · have H := of_false H hb8
       refine W.skip ?_
       refine At.inb ?_
       refine At.thenC ?_
       refine W.region env [] [] rfl rfl rfl (.cons (by unfold inI; have := hn2; (try unfold maxLen at this); omega) .nil) .nil (At.keep (ts := [0, 12, 13, 14]) (ids := []) rfl rfl ?_)
       refine At.thenK (At.keep (ts := [0, 12, 13, 14]) (ids := []) rfl rfl ?_)
       exact At.conv (.cons .q (.cons .q (.cons .qi (.cons .qi .nil)))) .nil (hK2 hi2 () H)
   · have H := H2 (by have := of_decide_eq_false hb3; omega)
     refine W.exit ?_
     refine At.xthen ?_
     refine At.xthen ?_
     refine At.xhere ?_
     refine At.thenC ?_
     refine W.rg env [4] [] ?_
     refine W.ret ?_
     cases H
     exact At.ret env.ty rfl rfl (fun q hq => by cases hq) (.refl _) hval
theorem cl_slices_Sort_int (p0 : List Int) {r : List Int} (H : slices_Sort_int_l p0 = some r) : CtrO Try.prog 48 [.buf 90000 p0.length] [(90000, bufL 3 1 enc_Int p0)] (.tup []) [(90000, bufL 3 1 enc_Int r)] :=
 sort_ctr (Go.Av.enters_of Try.func48 (by kernel_rfl) (c := _) rfl) (Any.slices_Sort_int sort_lays) (Any.slices_Sort_int_none sort_lays) 3 p0 H
theorem c_crew_Late (p0 : Crew) (p1 : (List (List Int))) (p2 : (List (List Int))) {r : ((List Int) × Int)} (H : crew_Late p0 p1 p2 = some r) : Ctr Try.prog 11 [.agg [roL 4 enc_Task p0.Tasks, roL 1 enc_ListRange p0.Travel, roL 3 enc_Hand p0.Hands], roL 1 enc_ListInt p1, roL 1 enc_ListInt p2] (.tup [roL 1 enc_Int r.1, .int .i64 (r.2)]) := by
 unfold crew_Late at H
 refine Ctr.of_body (N := 96) Try.func11 (by kernel_rfl) (c := _) rfl Try.ntmps11 rfl (fun w0 h0 hval => ?_)
 refine W.rg env [1, 2, 3] [3] ?_
 refine W.seq ?_
 refine W.seq ?_
 obtain ⟨y1, hy2, H⟩ := of_bindO H
 refine W.region env [] [⟨.tup [.po y1.1.isSome [roL 4 enc_Task ((y1.1.getD default).Crew.Tasks), roL 1 enc_ListRange ((y1.1.getD default).Crew.Travel), roL 3 enc_Hand ((y1.1.getD default).Crew.Hands), roL 1 enc_Int ((y1.1.getD default).next)], .int .i64 (y1.2)], [], 0, []⟩] rfl rfl rfl .nil (.free (c_crew_asked p0 p1 hy2) .nil) (At.keep (ts := [1, 2, 3, 9]) (ids := [3]) rfl rfl ?_)
 refine At.thenC ?_
 refine W.rg env [1, 2, 3, 9, 23] [3] ?_
 refine W.cond rfl (fun hb3 => ?_) (fun hb3 => ?_)
 · have H := of_true H hb3
   refine W.rg env [6, 7] [] ?_
   refine W.ret ?_
   refine At.rthen ?_
   cases H
   exact At.ret env.ty rfl rfl (fun q hq => by cases hq) (Sim.tupL (.cons (Sim.nil _ _) (.cons (.refl _) .nil))) hval
 · have H := of_false H hb3
   refine W.skip ?_
   refine At.thenC ?_
   refine W.seq ?_
   refine W.seq ?_
   obtain ⟨y4, hy5, H⟩ := of_bindO H
   refine W.region env [] [⟨.bool (y4), [], 0, []⟩] rfl rfl rfl .nil (.free (c_crew_areWalks p1 p2 hy5) .nil) (At.keep (ts := [1, 2, 3, 28]) (ids := [3]) rfl rfl ?_)
   refine At.thenC ?_
   refine W.cond rfl (fun hb6 => ?_) (fun hb6 => ?_)
   · have H := of_true H hb6
     refine W.rg env [6, 7] [] ?_
     refine W.ret ?_
     refine At.rthen ?_
     cases H
     exact At.ret env.ty rfl rfl (fun q hq => by cases hq) (Sim.tupL (.cons (Sim.nil _ _) (.cons (.refl _) .nil))) hval
   · have H := of_false H hb6
     refine W.skip ?_
     refine At.thenC ?_
     refine W.rg env [1, 2, 3, 10] [3] ?_
     refine W.seq ?_
     refine W.rg env [2, 3, 10, 29, 30, 31] [3] ?_
     refine W.block ?_
     refine At.nilOwn 10 510 3 1 (e := fun i => enc_Int (([] : List Int).getD i default)) rfl rfl ?_
     refine At.keep (ts := [2, 3, 10, 29, 30, 31]) (ids := [3, 510]) rfl rfl ?_
     refine W.len (t := 29) rfl (fun (hn7 : p1.length ≤ maxLen) => ?_)
     refine W.rangeGo H (fun i7 (s7 : (List Int)) => [(2, roL 1 enc_ListInt p2), (3, .lp 3 0), (10, .buf 510 (s7).length), (29, roL 1 enc_ListInt p1), (30, .int .i64 (((p1.length : Nat) : Int))), (31, .int .i64 ((i7 : Int)))]) (fun i7 (s7 : (List Int)) => [(3, .cells [roL 4 enc_Task p0.Tasks, roL 1 enc_ListRange p0.Travel, roL 3 enc_Hand p0.Hands]), (510, bufL 3 1 enc_Int s7)]) (.cons .q (.cons .q (.cons .qb (.cons .q (.cons .qi (.cons .qi .nil)))))) (.cons .q (.cons .q .nil)) (fun k7 i7 s7 hle7 H1 H2 K0 hK7 => ?_)
     refine W.rg env [2, 3, 10, 29, 30, 31, 32] [3, 510] ?_
     refine W.seq ?_
     refine W.cond rfl (fun hb8 => ?_) (fun hb8 => ?_)
     · have hi7 : i7 < p1.length := by have := of_decide_eq_true hb8; omega
       have H := H1 hi7
       refine W.skip ?_
       refine At.thenC ?_
       refine W.seq ?_
       refine W.block ?_
       refine W.sr env [] [] [2, 3, 10, 11, 12, 29, 30, 31] [3, 510] rfl rfl rfl (.cons (⟨by omega, by omega⟩ : 0 ≤ (i7 : Int) ∧ (i7 : Int) < ((p1.length : Nat) : Int)) .nil) .nil ?_
       obtain ⟨hc9, H⟩ := of_must H
       obtain ⟨hc10, H⟩ := of_must H
       refine W.sr env [] [] [2, 3, 10, 11, 12, 13, 29, 30, 31] [3, 510] rfl rfl (by first | rfl | kernel_rfl) (.cons hc9 (.cons hc10 .nil)) .nil ?_
       refine W.seq ?_
       obtain ⟨hc11, H⟩ := of_must H
       refine W.region env [] [] rfl rfl rfl (.cons hc11 .nil) .nil (At.keep (ts := [2, 3, 10, 11, 12, 13, 29, 30, 31, 45, 46, 47]) (ids := [3, 510]) rfl rfl ?_)
       refine At.slot (t := 45) (v := roL 1 enc_Int ((p1.getD i7 default).drop 1)) (Sim.seg (Seg.drop enc_Int (p1.getD i7 default) 1)) ?_
       refine At.thenC ?_
       refine W.block ?_
       refine At.keep (ts := [2, 3, 10, 11, 12, 13, 29, 30, 31, 45, 46, 47]) (ids := [3, 510]) rfl rfl ?_
       refine W.len (t := 45) rfl (fun (hn12 : ((p1.getD i7 default).drop 1).length ≤ maxLen) => ?_)
       refine W.rangeGo H (fun i12 (s12 : Int × (List Int)) => [(2, roL 1 enc_ListInt p2), (3, .lp 3 0), (10, .buf 510 (s12.2).length), (11, .int .i64 ((i7 : Int))), (12, roL 1 enc_Int (p1.getD i7 default)), (13, .int .i64 (s12.1)), (29, roL 1 enc_ListInt p1), (30, .int .i64 (((p1.length : Nat) : Int))), (31, .int .i64 ((i7 : Int))), (45, roL 1 enc_Int ((p1.getD i7 default).drop 1)), (46, .int .i64 (((((p1.getD i7 default).drop 1).length : Nat) : Int))), (47, .int .i64 ((i12 : Int)))]) (fun i12 (s12 : Int × (List Int)) => [(3, .cells [roL 4 enc_Task p0.Tasks, roL 1 enc_ListRange p0.Travel, roL 3 enc_Hand p0.Hands]), (510, bufL 3 1 enc_Int s12.2)]) (.cons .q (.cons .q (.cons .qb (.cons .qi (.cons .q (.cons .qi (.cons .q (.cons .qi (.cons .qi (.cons .q (.cons .qi (.cons .qi .nil)))))))))))) (.cons .q (.cons .q .nil)) (fun k12 i12 s12 hle12 H1 H2 K0 hK12 => ?_)
       refine W.rg env [2, 3, 10, 11, 12, 13, 29, 30, 31, 45, 46, 47, 48] [3, 510] ?_
       refine W.seq ?_
       refine W.cond rfl (fun hb13 => ?_) (fun hb13 => ?_)
       · have hi12 : i12 < ((p1.getD i7 default).drop 1).length := by have := of_decide_eq_true hb13; omega
         have H := H1 hi12
         refine W.skip ?_
         refine At.thenC ?_
         refine W.seq ?_
         refine W.block ?_
         refine W.sr env [] [] [2, 3, 10, 11, 12, 13, 14, 15, 29, 30, 31, 45, 46, 47] [3, 510] rfl rfl rfl (.cons (⟨by omega, by omega⟩ : 0 ≤ (i12 : Int) ∧ (i12 : Int) < ((((p1.getD i7 default).drop 1).length : Nat) : Int)) .nil) .nil ?_
         obtain ⟨hc14, H⟩ := of_must H
         obtain ⟨hc15, H⟩ := of_must H
         obtain ⟨hc16, H⟩ := of_must H
         obtain ⟨hc17, H⟩ := of_must H
         obtain ⟨hc18, H⟩ := of_must H
         obtain ⟨hc19, H⟩ := of_must H
         refine W.sr env [] [] [2, 3, 10, 11, 12, 13, 15, 29, 30, 31, 45, 46, 47] [3, 510] rfl rfl (by first | rfl | kernel_rfl) (.cons hc14 (.cons hc15 (.cons hc16 (.cons hc17 (.cons hc18 (.cons hc19 .nil)))))) .nil ?_
         refine W.seq ?_
         obtain ⟨hc20, H⟩ := of_must H
         refine W.sr env [] [] [2, 3, 10, 11, 12, 13, 15, 29, 30, 31, 45, 46, 47, 78] [3, 510] rfl rfl rfl (.cons hc20 .nil) .nil ?_
         refine W.joinC H (fun (s21 : (List Int)) => [(2, roL 1 enc_ListInt p2), (3, .lp 3 0), (10, .buf 510 (s21).length), (11, .int .i64 ((i7 : Int))), (12, roL 1 enc_Int (p1.getD i7 default)), (13, .int .i64 ((s12.1 + ((p0.Tasks.getD (((p1.getD i7 default).getD i12 default)).toNat default).Serve + ((p2.getD i7 default).getD i12 default))))), (15, .int .i64 ((((p1.getD i7 default).drop 1).getD i12 default))), (29, roL 1 enc_ListInt p1), (30, .int .i64 (((p1.length : Nat) : Int))), (31, .int .i64 ((i7 : Int))), (45, roL 1 enc_Int ((p1.getD i7 default).drop 1)), (46, .int .i64 (((((p1.getD i7 default).drop 1).length : Nat) : Int))), (47, .int .i64 ((i12 : Int)))]) (fun (s21 : (List Int)) => [(3, .cells [roL 4 enc_Task p0.Tasks, roL 1 enc_ListRange p0.Travel, roL 3 enc_Hand p0.Hands]), (510, bufL 3 1 enc_Int s21)]) (fun s21 H => ?_) (fun k21 H hK21 => ?_)
         · obtain ⟨hc22, H⟩ := of_must H
           refine W.region env [] [] rfl rfl rfl (.cons hc22 .nil) .nil (At.keep (ts := [2, 3, 10, 11, 12, 13, 29, 30, 31, 45, 46, 47]) (ids := [3, 510]) rfl rfl ?_)
           refine At.inb ?_
           refine At.thenC ?_
           refine W.region env [] [] rfl rfl rfl (.cons (by unfold inI; have := hn12; (try unfold maxLen at this); omega) .nil) .nil (At.keep (ts := [2, 3, 10, 11, 12, 13, 29, 30, 31, 45, 46, 47]) (ids := [3, 510]) rfl rfl ?_)
           refine At.thenK (At.keep (ts := [2, 3, 10, 11, 12, 13, 29, 30, 31, 45, 46, 47]) (ids := [3, 510]) rfl rfl ?_)
           exact At.conv (.cons .q (.cons .q (.cons .qb (.cons .qi (.cons .q (.cons .qi (.cons .q (.cons .qi (.cons .qi (.cons .q (.cons .qi (.cons .qi .nil)))))))))))) (.cons .q (.cons .q .nil)) (hK12 hi12 ((max (s12.1 + ((p0.Tasks.getD (((p1.getD i7 default).getD i12 default)).toNat default).Serve + ((p2.getD i7 default).getD i12 default))) ((p0.Tasks.getD ((((p1.getD i7 default).drop 1).getD i12 default)).toNat default).At)), s21) H)
         · refine W.cond rfl (fun hb23 => ?_) (fun hb23 => ?_)
           · have H := of_true H hb23
             obtain ⟨hc24, H⟩ := of_must H
             refine W.region env [] [] rfl rfl rfl (.cons (⟨by first | rfl | (simp; done) | omega | (simp; omega), by have := hc24; first | simpa using this | (unfold room at this ⊢; simp at this ⊢; omega)⟩) .nil) .nil (At.keep (ts := [2, 3, 10, 11, 12, 13, 15, 29, 30, 31, 45, 46, 47]) (ids := [3, 510]) rfl rfl ?_)
             refine At.convM (.cons (.refl _) (.cons (y := bufL 3 1 enc_Int (s12.2 ++ ([(((p1.getD i7 default).drop 1).getD i12 default)] : List Int))) (BSim.seg (Seg.push (Seg.refl enc_Int _) (Seg.lit (f := enc_Int) (sz := 1) ([(((p1.getD i7 default).drop 1).getD i12 default)] : List Int) rfl rfl (fun _ => rfl)))) .nil)) ?_
             refine At.thenK (At.keep (ts := [2, 3, 10, 11, 12, 13, 15, 29, 30, 31, 45, 46, 47]) (ids := [3, 510]) rfl rfl ?_)
             exact At.conv (.cons .q (.cons .q (.cons .qb (.cons .qi (.cons .q (.cons .qi (.cons .qi (.cons .q (.cons .qi (.cons .qi (.cons .q (.cons .qi (.cons .qi .nil))))))))))))) (.cons .q (.cons .q .nil)) (hK21 (s12.2 ++ ([(((p1.getD i7 default).drop 1).getD i12 default)] : List Int)) H)
           · have H := of_false H hb23
             refine W.skip ?_
             refine At.thenK (At.keep (ts := [2, 3, 10, 11, 12, 13, 15, 29, 30, 31, 45, 46, 47]) (ids := [3, 510]) rfl rfl ?_)
             exact At.conv (.cons .q (.cons .q (.cons .qb (.cons .qi (.cons .q (.cons .qi (.cons .qi (.cons .q (.cons .qi (.cons .qi (.cons .q (.cons .qi (.cons .qi .nil))))))))))))) (.cons .q (.cons .q .nil)) (hK21 s12.2 H)
       · have H := H2 (by have := of_decide_eq_false hb13; omega)
         refine W.exit ?_
         refine At.xthen ?_
         refine At.xthen ?_
         refine At.xhere ?_
         refine At.inb ?_
         refine At.thenC ?_
         refine W.region env [] [] rfl rfl rfl (.cons (by unfold inI; have := hn7; (try unfold maxLen at this); omega) .nil) .nil (At.keep (ts := [2, 3, 10, 29, 30, 31]) (ids := [3, 510]) rfl rfl ?_)
         refine At.thenK (At.keep (ts := [2, 3, 10, 29, 30, 31]) (ids := [3, 510]) rfl rfl ?_)
         exact At.conv (.cons .q (.cons .q (.cons .qb (.cons .q (.cons .qi (.cons .qi .nil)))))) (.cons .q (.cons .q .nil)) (hK7 hi7 s12.2 H)
     · have H := H2 (by have := of_decide_eq_false hb8; omega)
       refine W.exit ?_
       refine At.xthen ?_
       refine At.xthen ?_
       refine At.xhere ?_
       refine At.thenC ?_
       refine W.seq ?_
       obtain ⟨y25, hy26, H⟩ := of_bindO H
       obtain ⟨hc27, H⟩ := of_must H
       refine W.region env [] [⟨.tup [], [(510, bufL 3 1 enc_Int y25)], 0, [510]⟩] rfl rfl (by kernel_rfl) .nil (.free (CtrO.sim (CtrO.ren (cl_slices_Sort_int s7 hy26) [(90000, 510)]) (.cons .qc .nil) (.cons (.refl _) .nil)) .nil) (At.keep (ts := [10]) (ids := [510]) rfl rfl ?_)
       refine At.thenC ?_
       refine W.rg env [6, 7] [510] ?_
       refine W.ret ?_
       cases H
       exact At.ret env.ty rfl rfl (fun q hq => by cases hq; exact (by first | rfl | (simp; done) | omega | (simp; omega))) (.refl _) hval
theorem c_crew_shift__free (p0 : crew_shift) {r : (List Int)} (H : crew_shift__free p0 = some r) : Ctr Try.prog 70 [.agg [.po p0.plan.isSome [roL 4 enc_Task ((p0.plan.getD default).Crew.Tasks), roL 1 enc_ListRange ((p0.plan.getD default).Crew.Travel), roL 3 enc_Hand ((p0.plan.getD default).Crew.Hands), roL 1 enc_Int ((p0.plan.getD default).next)], roL 1 enc_ListInt p0.rounds]] (roL 1 enc_Int r) := by
 unfold crew_shift__free at H
 refine Ctr.of_body (N := 19) Try.func70 (by kernel_rfl) (c := _) rfl Try.ntmps70 rfl (fun w0 h0 hval => ?_)
 refine W.rg env [1] [1] ?_
 refine W.seq ?_
 obtain ⟨hc1, H⟩ := of_must H
 refine W.region env [] [] rfl rfl rfl (.cons hc1 .nil) .nil (At.keep (ts := [3]) (ids := [8]) rfl rfl ?_)
 refine At.convM (.cons (y := bufL 3 1 enc_Int (List.replicate (((p0.rounds.length : Nat) : Int)).toNat (0 : Int))) (BSim.seg (Seg.made (f := enc_Int) 0 rfl)) .nil) ?_
 refine At.thenC ?_
 refine W.seq ?_
 refine W.sr env [] [] [3, 10, 11] [8] rfl rfl rfl (.cons (by first | rfl | (simp; done) | omega | (simp; omega)) .nil) .nil ?_
 refine W.block ?_
 refine At.keep (ts := [3, 10, 11]) (ids := [8]) rfl rfl ?_
 obtain ⟨hn2, H⟩ := of_must H
 refine W.rangeGo H (fun i2 (s2 : (List Int)) => [(3, .buf 8 (s2).length), (10, .int .i64 ((((List.replicate (((p0.rounds.length : Nat) : Int)).toNat (0 : Int)).length : Nat) : Int))), (11, .int .i64 ((i2 : Int)))]) (fun i2 (s2 : (List Int)) => [(8, bufL 3 1 enc_Int s2)]) (.cons .qb (.cons .qi (.cons .qi .nil))) (.cons .q .nil) (fun k2 i2 s2 hle2 H1 H2 K0 hK2 => ?_)
 refine W.rg env [3, 10, 11, 12] [8] ?_
 refine W.seq ?_
 refine W.cond rfl (fun hb3 => ?_) (fun hb3 => ?_)
 · have hi2 : i2 < (List.replicate (((p0.rounds.length : Nat) : Int)).toNat (0 : Int)).length := by have := of_decide_eq_true hb3; omega
   have H := H1 hi2
   refine W.skip ?_
   refine At.thenC ?_
   refine W.seq ?_
   refine W.block ?_
   refine W.rg env [3, 4, 10, 11] [8] ?_
   obtain ⟨hc4, H⟩ := of_must H
   refine W.region env [] [] rfl rfl rfl (.cons (⟨by first | rfl | (simp; done) | omega | (simp; omega), hc4⟩) (.cons (⟨by first | rfl | (simp; done) | omega | (simp; omega), (by have := hc4; first | omega | (simp only [List.length_set]; omega) | (simp only [Int.toNat_natCast] at *; omega) | (simp at this ⊢; omega))⟩) .nil)) .nil (At.keep (ts := [3, 10, 11]) (ids := [8]) rfl rfl ?_)
   refine At.convM (.cons (y := bufL 3 1 enc_Int (s2.set i2 (-1))) (BSim.seg (Seg.set (Seg.refl enc_Int _) (-1) rfl)) .nil) ?_
   refine At.inb ?_
   refine At.thenC ?_
   refine W.region env [] [] rfl rfl rfl (.cons (by unfold inI; have := hn2; (try unfold maxLen at this); omega) .nil) .nil (At.keep (ts := [3, 10, 11]) (ids := [8]) rfl rfl ?_)
   refine At.thenK (At.keep (ts := [3, 10, 11]) (ids := [8]) rfl rfl ?_)
   exact At.conv (.cons .qb (.cons .qi (.cons .qi .nil))) (.cons .q .nil) (hK2 hi2 (s2.set i2 (-1)) H)
 · have H := H2 (by have := of_decide_eq_false hb3; omega)
   refine W.exit ?_
   refine At.xthen ?_
   refine At.xthen ?_
   refine At.xhere ?_
   refine At.thenC ?_
   refine W.rg env [2] [8] ?_
   refine W.ret ?_
   cases H
   exact At.ret env.ty rfl rfl (fun q hq => by cases hq; exact (by first | rfl | (simp; done) | omega | (simp; omega))) (.refl _) hval
theorem c_crew_shift__indices (p0 : crew_shift) {r : (List Int)} (H : crew_shift__indices p0 = some r) : Ctr Try.prog 72 [.agg [.po p0.plan.isSome [roL 4 enc_Task ((p0.plan.getD default).Crew.Tasks), roL 1 enc_ListRange ((p0.plan.getD default).Crew.Travel), roL 3 enc_Hand ((p0.plan.getD default).Crew.Hands), roL 1 enc_Int ((p0.plan.getD default).next)], roL 1 enc_ListInt p0.rounds]] (roL 1 enc_Int r) := by
 unfold crew_shift__indices at H
 refine Ctr.of_body (N := 17) Try.func72 (by kernel_rfl) (c := _) rfl Try.ntmps72 rfl (fun w0 h0 hval => ?_)
 refine W.rg env [1] [1] ?_
 refine W.rg env [1, 3] [1] ?_
 refine W.seq ?_
 refine W.rg env [3, 7, 8] [] ?_
 refine W.block ?_
 refine At.nilOwn 3 503 3 1 (e := fun i => enc_Int (([] : List Int).getD i default)) rfl rfl ?_
 refine At.keep (ts := [3, 7, 8]) (ids := [503]) rfl rfl ?_
 obtain ⟨hn1, H⟩ := of_must H
 refine W.rangeGo H (fun i1 (s1 : (List Int)) => [(3, .buf 503 (s1).length), (7, .int .i64 (((p0.rounds.length : Nat) : Int))), (8, .int .i64 ((i1 : Int)))]) (fun i1 (s1 : (List Int)) => [(503, bufL 3 1 enc_Int s1)]) (.cons .qb (.cons .qi (.cons .qi .nil))) (.cons .q .nil) (fun k1 i1 s1 hle1 H1 H2 K0 hK1 => ?_)
 refine W.rg env [3, 7, 8, 9] [503] ?_
 refine W.seq ?_
 refine W.cond rfl (fun hb2 => ?_) (fun hb2 => ?_)
 · have hi1 : i1 < p0.rounds.length := by have := of_decide_eq_true hb2; omega
   have H := H1 hi1
   refine W.skip ?_
   refine At.thenC ?_
   refine W.seq ?_
   refine W.block ?_
   refine W.rg env [3, 4, 7, 8] [503] ?_
   obtain ⟨hc3, H⟩ := of_must H
   refine W.region env [] [] rfl rfl rfl (.cons (⟨by first | rfl | (simp; done) | omega | (simp; omega), by have := hc3; first | simpa using this | (unfold room at this ⊢; simp at this ⊢; omega)⟩) .nil) .nil (At.keep (ts := [3, 7, 8]) (ids := [503]) rfl rfl ?_)
   refine At.convM (.cons (y := bufL 3 1 enc_Int (s1 ++ ([(i1 : Int)] : List Int))) (BSim.seg (Seg.push (Seg.refl enc_Int _) (Seg.lit (f := enc_Int) (sz := 1) ([(i1 : Int)] : List Int) rfl rfl (fun _ => rfl)))) .nil) ?_
   refine At.inb ?_
   refine At.thenC ?_
   refine W.region env [] [] rfl rfl rfl (.cons (by unfold inI; have := hn1; (try unfold maxLen at this); omega) .nil) .nil (At.keep (ts := [3, 7, 8]) (ids := [503]) rfl rfl ?_)
   refine At.thenK (At.keep (ts := [3, 7, 8]) (ids := [503]) rfl rfl ?_)
   exact At.conv (.cons .qb (.cons .qi (.cons .qi .nil))) (.cons .q .nil) (hK1 hi1 (s1 ++ ([(i1 : Int)] : List Int)) H)
 · have H := H2 (by have := of_decide_eq_false hb2; omega)
   refine W.exit ?_
   refine At.xthen ?_
   refine At.xthen ?_
   refine At.xhere ?_
   refine At.thenC ?_
   refine W.rg env [2] [503] ?_
   refine W.ret ?_
   cases H
   exact At.ret env.ty rfl rfl (fun q hq => by cases hq; exact (by first | rfl | (simp; done) | omega | (simp; omega))) (.refl _) hval
theorem c_crew_plan__able (p0 : crew_plan) (p1 : Hand) (p2 : (List Int)) {r : Bool} (H : crew_plan__able p0 p1 p2 = some r) : Ctr Try.prog 73 [.rp [roL 4 enc_Task p0.Crew.Tasks, roL 1 enc_ListRange p0.Crew.Travel, roL 3 enc_Hand p0.Crew.Hands, roL 1 enc_Int p0.next], .agg [.int .i64 (p1.Id), .int .i64 (p1.From), .int .i64 (p1.To)], roL 1 enc_Int p2] (.bool (r)) := by
 unfold crew_plan__able at H
 refine Ctr.of_body (N := 47) Try.func73 (by kernel_rfl) (c := _) rfl Try.ntmps73 rfl (fun w0 h0 hval => ?_)
 refine W.rg env [0, 2, 4] [4] ?_
 obtain ⟨hc1, H⟩ := of_must H
 obtain ⟨hc2, H⟩ := of_must H
 obtain ⟨hc3, H⟩ := of_must H
 obtain ⟨hc4, H⟩ := of_must H
 obtain ⟨hc5, H⟩ := of_must H
 refine W.sr env [] [] [4, 7, 8] [4, 7, 8] rfl rfl (by first | rfl | kernel_rfl) (.cons hc1 (.cons hc2 (.cons hc3 (.cons hc4 (.cons hc5 .nil))))) .nil ?_
 obtain ⟨hc6, H⟩ := of_must H
 refine W.sr env [] [] [6] [] rfl rfl rfl (.cons (fun h => h) (.cons (fun h => h) (.cons (fun h => h) (.cons hc6 (.cons (fun h => h) (.cons (fun h => h) (.cons (fun h => h) (.cons (fun h => h) (.cons (fun h => h) .nil))))))))) .nil ?_
 refine W.ret ?_
 cases H
 exact At.ret env.ty rfl rfl (fun q hq => by cases hq) (.refl _) hval
theorem cl_crew_shift__all_1_l (fuel : Nat) : ∀ (n : Nat) (p0 : Int) (c0 : crew_shift) (c1 : Int) (c2 : (List Int)) (c3 : (List Int)) {r : (Bool × Int × (List Int))} (H : crew_shift__all_1_l fuel n p0 c0 c1 c2 c3 = some r), CtrO Try.prog 99 [.int .i64 (p0), .lp 90000 0, .lp 90001 0, .lp 90002 0, .lp 90004 0, .lp 90005 0] [(90000, .cells [.po c0.plan.isSome [roL 4 enc_Task ((c0.plan.getD default).Crew.Tasks), roL 1 enc_ListRange ((c0.plan.getD default).Crew.Travel), roL 3 enc_Hand ((c0.plan.getD default).Crew.Hands), roL 1 enc_Int ((c0.plan.getD default).next)], roL 1 enc_ListInt c0.rounds]), (90001, .cells [.int .i64 (c1)]), (90002, .cells [.buf 90003 (c2).length]), (90003, bufL 3 1 enc_Int c2), (90004, .cells [roL 1 enc_Int c3]), (90005, .cells [.fn (.func 99) [] [.lp 90000 0, .lp 90001 0, .lp 90002 0, .lp 90004 0, .lp 90005 0]])] (.bool (r.1)) [(90000, .cells [.po c0.plan.isSome [roL 4 enc_Task ((c0.plan.getD default).Crew.Tasks), roL 1 enc_ListRange ((c0.plan.getD default).Crew.Travel), roL 3 enc_Hand ((c0.plan.getD default).Crew.Hands), roL 1 enc_Int ((c0.plan.getD default).next)], roL 1 enc_ListInt c0.rounds]), (90001, .cells [.int .i64 (r.2.1)]), (90002, .cells [.buf 90003 (r.2.2).length]), (90003, bufL 3 1 enc_Int r.2.2), (90004, .cells [roL 1 enc_Int c3]), (90005, .cells [.fn (.func 99) [] [.lp 90000 0, .lp 90001 0, .lp 90002 0, .lp 90004 0, .lp 90005 0]])] := by
 intro n; induction n with
 | zero => intro p0 c0 c1 c2 c3 r H; cases H
 | succ n ih =>
   intro p0 c0 c1 c2 c3 r H
   have H : crew_shift__all_1_l_F fuel (crew_shift__all_1_l fuel n) p0 c0 c1 c2 c3 = some r := H
   unfold crew_shift__all_1_l_F at H
   refine CtrL.of_body (N := 81) Try.func99 (by kernel_rfl) (c := _) rfl Try.ntmps99 rfl rfl (fun w0 h0 ρb hval hdom hent => ?_)
   refine W.rg env [0, 1, 2, 3, 4, 5] [90000, 90001, 90002, 90003, 90004, 90005] ?_
   refine W.seq ?_
   obtain ⟨hc1, H⟩ := of_must H
   refine W.sr env [] [] [0, 1, 2, 3, 4, 5, 15, 16, 17] [90000, 90001, 90002, 90003, 90004, 90005] rfl rfl rfl (.cons hc1 .nil) .nil ?_
   refine W.block ?_
   refine At.keep (ts := [0, 1, 2, 3, 4, 5, 15, 16, 17]) (ids := [90000, 90001, 90002, 90003, 90004, 90005]) rfl rfl ?_
   refine W.len (t := 15) rfl (fun (hn2 : ((c0.plan.getD default).Crew.Hands).length ≤ maxLen) => ?_)
   refine W.rangeGo H (fun i2 (s2 : (List Int) × Int) => [(0, .int .i64 (p0)), (1, .lp 90000 0), (2, .lp 90001 0), (3, .lp 90002 0), (4, .lp 90004 0), (5, .lp 90005 0), (15, roL 3 enc_Hand ((c0.plan.getD default).Crew.Hands)), (16, .int .i64 (((((c0.plan.getD default).Crew.Hands).length : Nat) : Int))), (17, .int .i64 ((i2 : Int)))]) (fun i2 (s2 : (List Int) × Int) => [(90000, .cells [.po c0.plan.isSome [roL 4 enc_Task ((c0.plan.getD default).Crew.Tasks), roL 1 enc_ListRange ((c0.plan.getD default).Crew.Travel), roL 3 enc_Hand ((c0.plan.getD default).Crew.Hands), roL 1 enc_Int ((c0.plan.getD default).next)], roL 1 enc_ListInt c0.rounds]), (90001, .cells [.int .i64 (s2.2)]), (90002, .cells [.buf 90003 (s2.1).length]), (90003, bufL 3 1 enc_Int s2.1), (90004, .cells [roL 1 enc_Int c3]), (90005, .cells [.fn (.func 99) [] [.lp 90000 0, .lp 90001 0, .lp 90002 0, .lp 90004 0, .lp 90005 0]])]) (.cons .qi (.cons .q (.cons .q (.cons .q (.cons .q (.cons .q (.cons .q (.cons .qi (.cons .qi .nil))))))))) (.cons .q (.cons .q (.cons (BSim.cells (.cons .qc .nil)) (.cons .q (.cons .q (.cons .q .nil)))))) (fun k2 i2 s2 hle2 H1 H2 K0 hK2 => ?_)
   refine W.rg env [0, 1, 2, 3, 4, 5, 15, 16, 17, 18] [90000, 90001, 90002, 90003, 90004, 90005] ?_
   refine W.seq ?_
   refine W.cond rfl (fun hb3 => ?_) (fun hb3 => ?_)
   · have hi2 : i2 < ((c0.plan.getD default).Crew.Hands).length := by have := of_decide_eq_true hb3; omega
     have H := H1 hi2
     refine W.skip ?_
     refine At.thenC ?_
     refine W.seq ?_
     refine W.joinC H (fun (s4 : Int × (List Int)) => [(0, .int .i64 (p0)), (1, .lp 90000 0), (2, .lp 90001 0), (3, .lp 90002 0), (4, .lp 90004 0), (5, .lp 90005 0), (15, roL 3 enc_Hand ((c0.plan.getD default).Crew.Hands)), (16, .int .i64 (((((c0.plan.getD default).Crew.Hands).length : Nat) : Int))), (17, .int .i64 ((i2 : Int)))]) (fun (s4 : Int × (List Int)) => [(90000, .cells [.po c0.plan.isSome [roL 4 enc_Task ((c0.plan.getD default).Crew.Tasks), roL 1 enc_ListRange ((c0.plan.getD default).Crew.Travel), roL 3 enc_Hand ((c0.plan.getD default).Crew.Hands), roL 1 enc_Int ((c0.plan.getD default).next)], roL 1 enc_ListInt c0.rounds]), (90001, .cells [.int .i64 (s4.1)]), (90002, .cells [.buf 90003 (s4.2).length]), (90003, bufL 3 1 enc_Int s4.2), (90004, .cells [roL 1 enc_Int c3]), (90005, .cells [.fn (.func 99) [] [.lp 90000 0, .lp 90001 0, .lp 90002 0, .lp 90004 0, .lp 90005 0]])]) (fun s4 H => ?_) (fun k4 H hK4 => ?_)
     · refine W.region env [] [] rfl rfl rfl (.cons (by unfold inI; have := hn2; (try unfold maxLen at this); omega) .nil) .nil (At.keep (ts := [0, 1, 2, 3, 4, 5, 15, 16, 17]) (ids := [90000, 90001, 90002, 90003, 90004, 90005]) rfl rfl ?_)
       refine At.thenK (At.keep (ts := [0, 1, 2, 3, 4, 5, 15, 16, 17]) (ids := [90000, 90001, 90002, 90003, 90004, 90005]) rfl rfl ?_)
       exact At.conv (.cons .qi (.cons .q (.cons .q (.cons .q (.cons .q (.cons .q (.cons .q (.cons .qi (.cons .qi .nil))))))))) (.cons .q (.cons .q (.cons (BSim.cells (.cons .qc .nil)) (.cons .q (.cons .q (.cons .q .nil)))))) (hK2 hi2 (s4.2, s4.1) H)
     · refine W.block ?_
       refine W.sr env [] [] [0, 1, 2, 3, 4, 5, 8, 9, 15, 16, 17] [9, 90000, 90001, 90002, 90003, 90004, 90005] rfl rfl rfl (.cons (⟨by omega, by omega⟩ : 0 ≤ (i2 : Int) ∧ (i2 : Int) < ((((c0.plan.getD default).Crew.Hands).length : Nat) : Int)) .nil) .nil ?_
       refine W.seq ?_
       refine W.seq ?_
       obtain ⟨hc5, H⟩ := of_must H
       obtain ⟨hc6, H⟩ := of_must H
       obtain ⟨hc7, H⟩ := of_must H
       obtain ⟨hc8, H⟩ := of_must H
       obtain ⟨y9, hy10, H⟩ := of_bindO H
       obtain ⟨hc11, H⟩ := of_must H
       obtain ⟨hc12, H⟩ := of_must H
       obtain ⟨hc13, H⟩ := of_must H
       obtain ⟨hc14, H⟩ := of_must H
       refine W.region env [] [⟨.bool (y9), [], 0, []⟩] rfl rfl (by kernel_rfl) (.cons hc5 (.cons hc6 (.cons (fun h => h) (.cons (fun h => h) (.cons hc7 (.cons (fun h => h) (.cons (fun h => h) (.cons (fun h => h) (.cons (fun h => h) (.cons (fun h => h) (.cons (fun h => h) (.cons (fun h => h) (.cons (fun h => by rw [h]; rfl) (.cons (fun hW => ⟨by first | rfl | (simp; done) | omega | (simp; omega), hc11 hW⟩) (.cons (fun h => h) (.cons (fun h => h) (.cons (fun hW => (⟨by first | rfl | (simp; done) | omega | (simp; omega), (by have := hc11 hW; first | omega | (simp only [List.length_set]; omega) | (simp only [Int.toNat_natCast] at *; omega) | (simp at this ⊢; omega))⟩)) (.cons (fun h => h) (.cons (fun h => h) (.cons (fun h => h) (.cons (fun hW => ⟨by first | rfl | (simp; done) | omega | (simp; omega), hc12 hW⟩) (.cons (fun h => h) (.cons (fun h => h) (.cons (fun hW => (⟨by first | rfl | (simp; done) | omega | (simp; omega), (by have := hc12 hW; first | omega | (simp only [List.length_set]; omega) | (simp only [Int.toNat_natCast] at *; omega) | (simp at this ⊢; omega))⟩)) (.cons (fun h => h) (.cons hc13 (.cons (fun h => h) (.cons hc14 (.cons (fun h => h) (.cons (fun h => h) (.cons (fun h => h) (.cons (fun h => h) (.cons (fun h => h) (.cons (fun hW h => by revert hW h; first | (simp +contextual; done) | grind) (.cons (fun h => by rw [h]; rfl) .nil))))))))))))))))))))))))))))))))))) (.on (fun hW => Ctr.sim (.cons (Sim.rp_po (hc8 hW)) (.cons (.refl _) (.cons (.refl _) .nil))) (c_crew_plan__able (c0.plan.getD default) (((c0.plan.getD default).Crew.Hands).getD i2 default) (c0.rounds.getD (p0).toNat default) (of_true hy10 hW))) .nil) (At.keep (ts := [0, 1, 2, 3, 4, 5, 8, 15, 16, 17, 56]) (ids := [90000, 90001, 90002, 90003, 90004, 90005]) rfl rfl ?_)
       refine At.thenC ?_
       refine W.cond rfl (fun hb15 => ?_) (fun hb15 => ?_)
       · have H := of_true H hb15
         refine W.exit ?_
         refine At.xthen ?_
         refine At.xhere ?_
         refine At.thenK (At.keep (ts := [0, 1, 2, 3, 4, 5, 15, 16, 17]) (ids := [90000, 90001, 90002, 90003, 90004, 90005]) rfl rfl ?_)
         exact At.conv (.cons .qi (.cons .q (.cons .q (.cons .q (.cons .q (.cons .q (.cons .q (.cons .qi (.cons .qi .nil))))))))) (.cons .q (.cons .q (.cons (BSim.cells (.cons .qc .nil)) (.cons .q (.cons .q (.cons .q .nil)))))) (hK4 (s2.2, s2.1) H)
       · have H := of_false H hb15
         refine W.skip ?_
         refine At.thenC ?_
         obtain ⟨hc16, H⟩ := of_must H
         obtain ⟨hc17, H⟩ := of_must H
         refine W.sr env [] [] [0, 1, 2, 3, 4, 5, 8, 15, 16, 17] [90000, 90001, 90002, 90003, 90004, 90005] rfl rfl (by first | rfl | kernel_rfl) (.cons hc16 (.cons hc17 .nil)) .nil ?_
         refine W.seq ?_
         obtain ⟨hc18, H⟩ := of_must H
         obtain ⟨hc19, H⟩ := of_must H
         obtain ⟨hc20, H⟩ := of_must H
         obtain ⟨y21, hy22, H⟩ := of_bindO H
         obtain ⟨hc23, H⟩ := of_must H
         refine W.region env [] [⟨.bool (y21.1), [(90000, .cells [.po c0.plan.isSome [roL 4 enc_Task ((c0.plan.getD default).Crew.Tasks), roL 1 enc_ListRange ((c0.plan.getD default).Crew.Travel), roL 3 enc_Hand ((c0.plan.getD default).Crew.Hands), roL 1 enc_Int ((c0.plan.getD default).next)], roL 1 enc_ListInt c0.rounds]), (90001, .cells [.int .i64 (y21.2.1)]), (90002, .cells [.buf 90003 (y21.2.2).length]), (90003, bufL 3 1 enc_Int y21.2.2), (90004, .cells [roL 1 enc_Int c3]), (90005, .cells [.fn (.func 99) [] [.lp 90000 0, .lp 90001 0, .lp 90002 0, .lp 90004 0, .lp 90005 0]])], 0, [90000, 90001, 90002, 90003, 90004, 90005]⟩] rfl rfl (by kernel_rfl) (.cons (⟨by first | rfl | (simp; done) | omega | (simp; omega), hc18⟩) (.cons (⟨by first | rfl | (simp; done) | omega | (simp; omega), (by have := hc18; first | omega | (simp only [List.length_set]; omega) | (simp only [Int.toNat_natCast] at *; omega) | (simp at this ⊢; omega))⟩) (.cons (fun hW => ⟨by first | rfl | (simp; done) | omega | (simp; omega), hc19 hW⟩) (.cons (fun h => h) (.cons (fun h => h) (.cons (fun hW => (⟨by first | rfl | (simp; done) | omega | (simp; omega), (by have := hc19 hW; first | omega | (simp only [List.length_set]; omega) | (simp only [Int.toNat_natCast] at *; omega) | (simp at this ⊢; omega))⟩)) (.cons (fun h => h) (.cons hc20 (.cons (fun h => h) (.cons (fun hW => by obtain rfl := lend_off hy22 hW; first | exact .refl _ | exact .q) (.cons (fun hW => by obtain rfl := lend_off hy22 hW; first | exact .refl _ | exact .q) (.cons (fun hW => by obtain rfl := lend_off hy22 hW; first | exact .refl _ | exact .q) (.cons (fun hW => by obtain rfl := lend_off hy22 hW; first | exact .refl _ | exact .q) (.cons (fun hW => by obtain rfl := lend_off hy22 hW; first | exact .refl _ | exact .q) (.cons (fun hW => by obtain rfl := lend_off hy22 hW; first | exact .refl _ | exact .q) (.cons (fun h => h) (.cons (fun h => h) (.cons (fun h => by rw [h]; rfl) .nil)))))))))))))))))) (.on (fun hW => (CtrO.sim (CtrO.ren (ih ((s2.1.getD i2 default) - 1) c0 (((s2.2 : Int).toNat ||| (((1 : Int) * 2 ^ ((i2 : Int) : Int).toNat) : Int).toNat : Nat) : Int) s2.1 c3 (of_true hy22 hW)) [(90000, 90000), (90001, 90001), (90002, 90002), (90003, 90003), (90004, 90004), (90005, 90005)]) (.cons (.refl _) (.cons (.refl _) (.cons (.refl _) (.cons (.refl _) (.cons (.refl _) (.cons (.refl _) .nil)))))) (.cons (.refl _) (.cons (.refl _) (.cons (BSim.cells (.cons .qc .nil)) (.cons (.refl _) (.cons (.refl _) (.cons (.refl _) .nil)))))))) .nil) (At.keep (ts := [0, 1, 2, 3, 4, 5, 8, 15, 16, 17, 74]) (ids := [90000, 90001, 90002, 90003, 90004, 90005]) rfl rfl ?_)
         refine At.thenC ?_
         refine W.cond rfl (fun hb24 => ?_) (fun hb24 => ?_)
         · have H := of_true H hb24
           refine W.seq ?_
           obtain ⟨hc25, H⟩ := of_must H
           obtain ⟨hc26, H⟩ := of_must H
           refine W.region env [] [] rfl rfl rfl (.cons hc25 (.cons (⟨by first | rfl | (simp; done) | omega | (simp; omega), hc26⟩) (.cons (⟨by first | rfl | (simp; done) | omega | (simp; omega), (by have := hc26; first | omega | (simp only [List.length_set]; omega) | (simp only [Int.toNat_natCast] at *; omega) | (simp at this ⊢; omega))⟩) .nil))) .nil (At.keep (ts := []) (ids := [90000, 90001, 90002, 90003, 90004, 90005]) rfl rfl ?_)
           refine At.convM (.cons (.refl _) (.cons (.refl _) (.cons (.refl _) (.cons (y := bufL 3 1 enc_Int (y21.2.2.set i2 (p0 + 1))) (BSim.seg (Seg.set (Seg.refl enc_Int _) (p0 + 1) rfl)) (.cons (.refl _) (.cons (.refl _) .nil)))))) ?_
           refine At.thenC ?_
           refine W.rg env [7] [90000, 90001, 90002, 90003, 90004, 90005] ?_
           refine W.ret ?_
           refine At.rinb ?_
           refine At.rthen ?_
           refine At.rthen ?_
           refine At.rinb ?_
           refine At.rthen ?_
           cases H
           exact At.retL env.ty [90000, 90001, 90002, 90003, 90004, 90005] rfl rfl rfl rfl (.cons (.refl _) (.cons (.refl _) (.cons (BSim.cells (.cons .qc .nil)) (.cons (.refl _) (.cons (.refl _) (.cons (.refl _) .nil)))))) (.refl _) hval hdom hent rfl rfl
         · have H := of_false H hb24
           refine W.skip ?_
           refine At.inb ?_
           refine At.thenK (At.keep (ts := [0, 1, 2, 3, 4, 5, 15, 16, 17]) (ids := [90000, 90001, 90002, 90003, 90004, 90005]) rfl rfl ?_)
           exact At.conv (.cons .qi (.cons .q (.cons .q (.cons .q (.cons .q (.cons .q (.cons .q (.cons .qi (.cons .qi .nil))))))))) (.cons .q (.cons .q (.cons (BSim.cells (.cons .qc .nil)) (.cons .q (.cons .q (.cons .q .nil)))))) (hK4 (y21.2.1, y21.2.2) H)
   · have H := H2 (by have := of_decide_eq_false hb3; omega)
     refine W.exit ?_
     refine At.xthen ?_
     refine At.xthen ?_
     refine At.xhere ?_
     refine At.thenC ?_
     refine W.rg env [7] [90000, 90001, 90002, 90003, 90004, 90005] ?_
     refine W.ret ?_
     cases H
     exact At.retL env.ty [90000, 90001, 90002, 90003, 90004, 90005] rfl rfl rfl rfl (.cons (.refl _) (.cons (.refl _) (.cons (BSim.cells (.cons .qc .nil)) (.cons (.refl _) (.cons (.refl _) (.cons (.refl _) .nil)))))) (.refl _) hval hdom hent rfl rfl
theorem c_crew_shift__all (fuel : Nat) (p0 : crew_shift) (p1 : (List Int)) (p2 : (List Int)) {r : Bool} (H : crew_shift__all fuel p0 p1 p2 = some r) : Ctr Try.prog 71 [.agg [.po p0.plan.isSome [roL 4 enc_Task ((p0.plan.getD default).Crew.Tasks), roL 1 enc_ListRange ((p0.plan.getD default).Crew.Travel), roL 3 enc_Hand ((p0.plan.getD default).Crew.Hands), roL 1 enc_Int ((p0.plan.getD default).next)], roL 1 enc_ListInt p0.rounds], roL 1 enc_Int p1, roL 1 enc_Int p2] (.bool (r)) := by
 unfold crew_shift__all at H
 refine Ctr.of_body (N := 59) Try.func71 (by kernel_rfl) (c := _) rfl Try.ntmps71 rfl (fun w0 h0 hval => ?_)
 refine W.rg env [1, 3, 5] [3, 5] ?_
 refine W.scope ?_
 refine W.seq ?_
 obtain ⟨hc1, H⟩ := of_must H
 obtain ⟨hc2, H⟩ := of_must H
 refine W.region env [] [] rfl rfl rfl (.cons hc1 (.cons hc2 .nil)) .nil (At.keep (ts := [1, 3, 5, 7]) (ids := [3, 5, 7, 21]) rfl rfl ?_)
 refine At.convM (.cons (.refl _) (.cons (.refl _) (.cons (.refl _) (.cons (y := bufL 3 1 enc_Int (List.replicate (((((p0.plan.getD default).Crew.Hands).length : Nat) : Int)).toNat (0 : Int))) (BSim.seg (Seg.made (f := enc_Int) 0 rfl)) .nil)))) ?_
 refine At.thenC ?_
 refine W.seq ?_
 refine W.rg env [1, 3, 5, 7, 22, 23, 24] [3, 5, 7, 21] ?_
 refine W.block ?_
 refine At.keep (ts := [1, 3, 5, 7, 22, 23, 24]) (ids := [3, 5, 7, 21]) rfl rfl ?_
 refine W.len (t := 22) rfl (fun (hn3 : p1.length ≤ maxLen) => ?_)
 refine W.rangeGo H (fun i3 (s3 : (List Int)) => [(1, roL 1 enc_Int p1), (3, .lp 3 0), (5, .lp 5 0), (7, .lp 7 0), (22, roL 1 enc_Int p1), (23, .int .i64 (((p1.length : Nat) : Int))), (24, .int .i64 ((i3 : Int)))]) (fun i3 (s3 : (List Int)) => [(3, .cells [.po p0.plan.isSome [roL 4 enc_Task ((p0.plan.getD default).Crew.Tasks), roL 1 enc_ListRange ((p0.plan.getD default).Crew.Travel), roL 3 enc_Hand ((p0.plan.getD default).Crew.Hands), roL 1 enc_Int ((p0.plan.getD default).next)], roL 1 enc_ListInt p0.rounds]), (5, .cells [roL 1 enc_Int p2]), (7, .cells [.buf 21 (s3).length]), (21, bufL 3 1 enc_Int s3)]) (.cons .q (.cons .q (.cons .q (.cons .q (.cons .q (.cons .qi (.cons .qi .nil))))))) (.cons .q (.cons .q (.cons (BSim.cells (.cons .qc .nil)) (.cons .q .nil)))) (fun k3 i3 s3 hle3 H1 H2 K0 hK3 => ?_)
 refine W.rg env [1, 3, 5, 7, 22, 23, 24, 25] [3, 5, 7, 21] ?_
 refine W.seq ?_
 refine W.cond rfl (fun hb4 => ?_) (fun hb4 => ?_)
 · have hi3 : i3 < p1.length := by have := of_decide_eq_true hb4; omega
   have H := H1 hi3
   refine W.skip ?_
   refine At.thenC ?_
   refine W.seq ?_
   refine W.block ?_
   refine W.sr env [] [] [1, 3, 5, 7, 9, 22, 23, 24] [3, 5, 7, 21] rfl rfl rfl (.cons (⟨by omega, by omega⟩ : 0 ≤ (i3 : Int) ∧ (i3 : Int) < ((p1.length : Nat) : Int)) .nil) .nil ?_
   obtain ⟨hc5, H⟩ := of_must H
   refine W.sr env [] [] [1, 3, 5, 7, 9, 22, 23, 24, 32] [3, 5, 7, 21] rfl rfl rfl (.cons hc5 .nil) .nil ?_
   refine W.cond rfl (fun hb6 => ?_) (fun hb6 => ?_)
   · have H := of_true H hb6
     obtain ⟨hc7, H⟩ := of_must H
     obtain ⟨hc8, H⟩ := of_must H
     obtain ⟨hc9, H⟩ := of_must H
     refine W.region env [] [] rfl rfl (by first | rfl | kernel_rfl) (.cons hc7 (.cons hc8 (.cons (⟨by first | rfl | (simp; done) | omega | (simp; omega), hc9⟩) (.cons (⟨by first | rfl | (simp; done) | omega | (simp; omega), (by have := hc9; first | omega | (simp only [List.length_set]; omega) | (simp only [Int.toNat_natCast] at *; omega) | (simp at this ⊢; omega))⟩) .nil)))) .nil (At.keep (ts := [1, 3, 5, 7, 22, 23, 24]) (ids := [3, 5, 7, 21]) rfl rfl ?_)
     refine At.convM (.cons (.refl _) (.cons (.refl _) (.cons (.refl _) (.cons (y := bufL 3 1 enc_Int (s3.set ((p2.getD ((p1.getD i3 default)).toNat default)).toNat ((p1.getD i3 default) + 1))) (BSim.seg (Seg.set (Seg.refl enc_Int _) ((p1.getD i3 default) + 1) rfl)) .nil)))) ?_
     refine At.inb ?_
     refine At.thenC ?_
     refine W.region env [] [] rfl rfl rfl (.cons (by unfold inI; have := hn3; (try unfold maxLen at this); omega) .nil) .nil (At.keep (ts := [1, 3, 5, 7, 22, 23, 24]) (ids := [3, 5, 7, 21]) rfl rfl ?_)
     refine At.thenK (At.keep (ts := [1, 3, 5, 7, 22, 23, 24]) (ids := [3, 5, 7, 21]) rfl rfl ?_)
     exact At.conv (.cons .q (.cons .q (.cons .q (.cons .q (.cons .q (.cons .qi (.cons .qi .nil))))))) (.cons .q (.cons .q (.cons (BSim.cells (.cons .qc .nil)) (.cons .q .nil)))) (hK3 hi3 (s3.set ((p2.getD ((p1.getD i3 default)).toNat default)).toNat ((p1.getD i3 default) + 1)) H)
   · have H := of_false H hb6
     refine W.skip ?_
     refine At.inb ?_
     refine At.thenC ?_
     refine W.region env [] [] rfl rfl rfl (.cons (by unfold inI; have := hn3; (try unfold maxLen at this); omega) .nil) .nil (At.keep (ts := [1, 3, 5, 7, 22, 23, 24]) (ids := [3, 5, 7, 21]) rfl rfl ?_)
     refine At.thenK (At.keep (ts := [1, 3, 5, 7, 22, 23, 24]) (ids := [3, 5, 7, 21]) rfl rfl ?_)
     exact At.conv (.cons .q (.cons .q (.cons .q (.cons .q (.cons .q (.cons .qi (.cons .qi .nil))))))) (.cons .q (.cons .q (.cons (BSim.cells (.cons .qc .nil)) (.cons .q .nil)))) (hK3 hi3 s3 H)
 · have H := H2 (by have := of_decide_eq_false hb4; omega)
   refine W.exit ?_
   refine At.xthen ?_
   refine At.xthen ?_
   refine At.xhere ?_
   refine At.thenC ?_
   refine W.seq ?_
   refine W.label ?_
   refine At.thenC ?_
   refine W.seq ?_
   refine W.rg env [3, 5, 7, 42, 43, 44] [3, 5, 7, 21] ?_
   refine W.block ?_
   refine At.keep (ts := [3, 5, 7, 42, 43, 44]) (ids := [3, 5, 7, 21]) rfl rfl ?_
   refine W.len (t := 42) rfl (fun (hn10 : p1.length ≤ maxLen) => ?_)
   refine W.rangeGo H (fun i10 (s10 : (List Int)) => [(3, .lp 3 0), (5, .lp 5 0), (7, .lp 7 0), (42, roL 1 enc_Int p1), (43, .int .i64 (((p1.length : Nat) : Int))), (44, .int .i64 ((i10 : Int)))]) (fun i10 (s10 : (List Int)) => [(3, .cells [.po p0.plan.isSome [roL 4 enc_Task ((p0.plan.getD default).Crew.Tasks), roL 1 enc_ListRange ((p0.plan.getD default).Crew.Travel), roL 3 enc_Hand ((p0.plan.getD default).Crew.Hands), roL 1 enc_Int ((p0.plan.getD default).next)], roL 1 enc_ListInt p0.rounds]), (5, .cells [roL 1 enc_Int p2]), (7, .cells [.buf 21 (s10).length]), (21, bufL 3 1 enc_Int s10)]) (.cons .q (.cons .q (.cons .q (.cons .q (.cons .qi (.cons .qi .nil)))))) (.cons .q (.cons .q (.cons (BSim.cells (.cons .qc .nil)) (.cons .q .nil)))) (fun k10 i10 s10 hle10 H1 H2 K0 hK10 => ?_)
   refine W.rg env [3, 5, 7, 42, 43, 44, 45] [3, 5, 7, 21] ?_
   refine W.seq ?_
   refine W.cond rfl (fun hb11 => ?_) (fun hb11 => ?_)
   · have hi10 : i10 < p1.length := by have := of_decide_eq_true hb11; omega
     have H := H1 hi10
     refine W.skip ?_
     refine At.thenC ?_
     refine W.seq ?_
     refine W.joinC H (fun (s12 : (List Int)) => [(3, .lp 3 0), (5, .lp 5 0), (7, .lp 7 0), (42, roL 1 enc_Int p1), (43, .int .i64 (((p1.length : Nat) : Int))), (44, .int .i64 ((i10 : Int)))]) (fun (s12 : (List Int)) => [(3, .cells [.po p0.plan.isSome [roL 4 enc_Task ((p0.plan.getD default).Crew.Tasks), roL 1 enc_ListRange ((p0.plan.getD default).Crew.Travel), roL 3 enc_Hand ((p0.plan.getD default).Crew.Hands), roL 1 enc_Int ((p0.plan.getD default).next)], roL 1 enc_ListInt p0.rounds]), (5, .cells [roL 1 enc_Int p2]), (7, .cells [.buf 21 (s12).length]), (21, bufL 3 1 enc_Int s12)]) (fun s12 H => ?_) (fun k12 H hK12 => ?_)
     · refine W.region env [] [] rfl rfl rfl (.cons (by unfold inI; have := hn10; (try unfold maxLen at this); omega) .nil) .nil (At.keep (ts := [3, 5, 7, 42, 43, 44]) (ids := [3, 5, 7, 21]) rfl rfl ?_)
       refine At.thenK (At.keep (ts := [3, 5, 7, 42, 43, 44]) (ids := [3, 5, 7, 21]) rfl rfl ?_)
       exact At.conv (.cons .q (.cons .q (.cons .q (.cons .q (.cons .qi (.cons .qi .nil)))))) (.cons .q (.cons .q (.cons (BSim.cells (.cons .qc .nil)) (.cons .q .nil)))) (hK10 hi10 s12 H)
     · refine W.block ?_
       refine W.sr env [] [] [3, 5, 7, 11, 42, 43, 44] [3, 5, 7, 21] rfl rfl rfl (.cons (⟨by omega, by omega⟩ : 0 ≤ (i10 : Int) ∧ (i10 : Int) < ((p1.length : Nat) : Int)) .nil) .nil ?_
       refine W.seq ?_
       obtain ⟨hc13, H⟩ := of_must H
       refine W.sr env [] [] [3, 5, 7, 11, 42, 43, 44, 52] [3, 5, 7, 21] rfl rfl rfl (.cons hc13 .nil) .nil ?_
       refine W.cond rfl (fun hb14 => ?_) (fun hb14 => ?_)
       · have H := of_true H hb14
         refine W.exit ?_
         refine At.xthen ?_
         refine At.xhere ?_
         refine At.thenK (At.keep (ts := [3, 5, 7, 42, 43, 44]) (ids := [3, 5, 7, 21]) rfl rfl ?_)
         exact At.conv (.cons .q (.cons .q (.cons .q (.cons .q (.cons .qi (.cons .qi .nil)))))) (.cons .q (.cons .q (.cons (BSim.cells (.cons .qc .nil)) (.cons .q .nil)))) (hK12 s10 H)
       · have H := of_false H hb14
         refine W.skip ?_
         refine At.thenC ?_
         refine W.rg env [3, 5, 7, 11, 12, 42, 43, 44] [3, 5, 7, 12, 21] ?_
         refine W.rg env [3, 5, 7, 11, 12, 13, 42, 43, 44] [3, 5, 7, 12, 13, 21] ?_
         refine W.rg env [3, 5, 7, 11, 13, 42, 43, 44] [3, 5, 7, 12, 13, 21] ?_
         refine W.seq ?_
         obtain ⟨y15, hy16, H⟩ := of_bindO H
         refine W.region env [] [⟨.bool (y15.1), [(3, .cells [.po p0.plan.isSome [roL 4 enc_Task ((p0.plan.getD default).Crew.Tasks), roL 1 enc_ListRange ((p0.plan.getD default).Crew.Travel), roL 3 enc_Hand ((p0.plan.getD default).Crew.Hands), roL 1 enc_Int ((p0.plan.getD default).next)], roL 1 enc_ListInt p0.rounds]), (12, .cells [.int .i64 (y15.2.1)]), (7, .cells [.buf 21 (y15.2.2).length]), (21, bufL 3 1 enc_Int y15.2.2), (5, .cells [roL 1 enc_Int p2]), (13, .cells [.fn (.func 99) [] [.lp 3 0, .lp 12 0, .lp 7 0, .lp 5 0, .lp 13 0]])], 0, [3, 12, 7, 21, 5, 13]⟩] rfl rfl (by kernel_rfl) .nil (.free (CtrO.sim (CtrO.ren (cl_crew_shift__all_1_l fuel fuel (p1.getD i10 default) p0 0 s10 p2 hy16) [(90000, 3), (90001, 12), (90002, 7), (90003, 21), (90004, 5), (90005, 13)]) (.cons (.refl _) (.cons (.refl _) (.cons (.refl _) (.cons (.refl _) (.cons (.refl _) (.cons (.refl _) .nil)))))) (.cons (.refl _) (.cons (.refl _) (.cons (BSim.cells (.cons .qc .nil)) (.cons (.refl _) (.cons (.refl _) (.cons (.refl _) .nil))))))) .nil) (At.keep (ts := [3, 5, 7, 42, 43, 44, 57]) (ids := [3, 5, 7, 21]) rfl rfl ?_)
         refine At.thenC ?_
         refine W.cond rfl (fun hb17 => ?_) (fun hb17 => ?_)
         · have H := of_true H hb17
           refine W.rg env [6] [] ?_
           refine W.ret ?_
           refine At.rinb ?_
           refine At.rthen ?_
           refine At.rthen ?_
           refine At.rinb ?_
           refine At.rthen ?_
           refine At.rins ?_
           cases H
           exact At.ret env.ty rfl rfl (fun q hq => by cases hq) (.refl _) hval
         · have H := of_false H hb17
           refine W.skip ?_
           refine At.inb ?_
           refine At.thenK (At.keep (ts := [3, 5, 7, 42, 43, 44]) (ids := [3, 5, 7, 21]) rfl rfl ?_)
           exact At.conv (.cons .q (.cons .q (.cons .q (.cons .q (.cons .qi (.cons .qi .nil)))))) (.cons .q (.cons .q (.cons (BSim.cells (.cons .qc .nil)) (.cons .q .nil)))) (hK12 y15.2.2 H)
   · have H := H2 (by have := of_decide_eq_false hb11; omega)
     refine W.exit ?_
     refine At.xthen ?_
     refine At.xthen ?_
     refine At.xhere ?_
     refine At.thenC ?_
     refine W.rg env [6] [] ?_
     refine W.ret ?_
     refine At.rins ?_
     cases H
     exact At.ret env.ty rfl rfl (fun q hq => by cases hq) (.refl _) hval
theorem c_slices_Index_int (p0 : (List Int)) (p1 : Int) {r : Int} (H : slices_Index_int p0 p1 = some r) : Ctr Try.prog 100 [roL 1 enc_Int p0, .int .i64 (p1)] (.int .i64 (r)) := by
 unfold slices_Index_int at H
 refine Ctr.of_body (N := 19) Try.func100 (by kernel_rfl) (c := _) rfl Try.ntmps100 rfl (fun w0 h0 hval => ?_)
 refine W.rg env [0, 1] [] ?_
 refine W.seq ?_
 refine W.rg env [0, 1, 7, 8] [] ?_
 refine W.block ?_
 refine At.keep (ts := [0, 1, 7, 8]) (ids := []) rfl rfl ?_
 refine W.len (t := 0) rfl (fun (hn1 : p0.length ≤ maxLen) => ?_)
 refine W.rangeGo H (fun i1 (s1 : Unit) => [(0, roL 1 enc_Int p0), (1, .int .i64 (p1)), (7, .int .i64 (((p0.length : Nat) : Int))), (8, .int .i64 ((i1 : Int)))]) (fun i1 (s1 : Unit) => []) (.cons .q (.cons .qi (.cons .qi (.cons .qi .nil)))) .nil (fun k1 i1 s1 hle1 H1 H2 K0 hK1 => ?_)
 refine W.rg env [0, 1, 7, 8, 9] [] ?_
 refine W.seq ?_
 refine W.cond rfl (fun hb2 => ?_) (fun hb2 => ?_)
 · have hi1 : i1 < p0.length := by have := of_decide_eq_true hb2; omega
   have H := H1 hi1
   refine W.skip ?_
   refine At.thenC ?_
   refine W.seq ?_
   refine W.block ?_
   refine W.rg env [0, 1, 5, 7, 8] [] ?_
   refine W.sr env [] [] [0, 1, 5, 7, 8, 16] [] rfl rfl rfl (.cons (⟨by omega, by omega⟩ : 0 ≤ (i1 : Int) ∧ (i1 : Int) < ((p0.length : Nat) : Int)) .nil) .nil ?_
   refine W.cond rfl (fun hb3 => ?_) (fun hb3 => ?_)
   · have H := of_true H hb3
     refine W.rg env [4] [] ?_
     refine W.ret ?_
     refine At.rinb ?_
     refine At.rthen ?_
     refine At.rthen ?_
     refine At.rinb ?_
     refine At.rthen ?_
     cases H
     exact At.ret env.ty rfl rfl (fun q hq => by cases hq) (.refl _) hval
   · have H := of_false H hb3
     refine W.skip ?_
     refine At.inb ?_
     refine At.thenC ?_
     refine W.region env [] [] rfl rfl rfl (.cons (by unfold inI; have := hn1; (try unfold maxLen at this); omega) .nil) .nil (At.keep (ts := [0, 1, 7, 8]) (ids := []) rfl rfl ?_)
     refine At.thenK (At.keep (ts := [0, 1, 7, 8]) (ids := []) rfl rfl ?_)
     exact At.conv (.cons .q (.cons .qi (.cons .qi (.cons .qi .nil)))) .nil (hK1 hi1 () H)
 · have H := H2 (by have := of_decide_eq_false hb2; omega)
   refine W.exit ?_
   refine At.xthen ?_
   refine At.xthen ?_
   refine At.xhere ?_
   refine At.thenC ?_
   refine W.rg env [4] [] ?_
   refine W.ret ?_
   cases H
   exact At.ret env.ty rfl rfl (fun q hq => by cases hq) (.refl _) hval
theorem c_slices_Contains_int (p0 : (List Int)) (p1 : Int) {r : Bool} (H : slices_Contains_int p0 p1 = some r) : Ctr Try.prog 74 [roL 1 enc_Int p0, .int .i64 (p1)] (.bool (r)) := by
 unfold slices_Contains_int at H
 refine Ctr.of_body (N := 9) Try.func74 (by kernel_rfl) (c := _) rfl Try.ntmps74 rfl (fun w0 h0 hval => ?_)
 refine W.rg env [0, 1] [] ?_
 refine W.seq ?_
 obtain ⟨y1, hy2, H⟩ := of_bindO H
 refine W.region env [] [⟨.int .i64 (y1), [], 0, []⟩] rfl rfl rfl .nil (.free (c_slices_Index_int p0 p1 hy2) .nil) (At.keep (ts := [4]) (ids := []) rfl rfl ?_)
 refine At.thenC ?_
 refine W.ret ?_
 cases H
 exact At.ret env.ty rfl rfl (fun q hq => by cases hq) (.refl _) hval
theorem co_crew_shift__free (p0 : crew_shift) {r : (List Int)} (H : crew_shift__free p0 = some r) : CtrO Try.prog 70 [.agg [.po p0.plan.isSome [roL 4 enc_Task ((p0.plan.getD default).Crew.Tasks), roL 1 enc_ListRange ((p0.plan.getD default).Crew.Travel), roL 3 enc_Hand ((p0.plan.getD default).Crew.Hands), roL 1 enc_Int ((p0.plan.getD default).next)], roL 1 enc_ListInt p0.rounds]] [] (.buf 900 r.length) [(900, bufL 3 1 enc_Int r)] := by
 unfold crew_shift__free at H
 refine CtrO.of_body (N := 19) Try.func70 (by kernel_rfl) (c := _) rfl Try.ntmps70 rfl (fun w0 h0 ρb hval hdom => ?_)
 refine W.rg env [1] [1] ?_
 refine W.seq ?_
 obtain ⟨hc1, H⟩ := of_must H
 refine W.region env [] [] rfl rfl rfl (.cons hc1 .nil) .nil (At.keep (ts := [3]) (ids := [8]) rfl rfl ?_)
 refine At.convM (.cons (y := bufL 3 1 enc_Int (List.replicate (((p0.rounds.length : Nat) : Int)).toNat (0 : Int))) (BSim.seg (Seg.made (f := enc_Int) 0 rfl)) .nil) ?_
 refine At.thenC ?_
 refine W.seq ?_
 refine W.sr env [] [] [3, 10, 11] [8] rfl rfl rfl (.cons (by first | rfl | (simp; done) | omega | (simp; omega)) .nil) .nil ?_
 refine W.block ?_
 refine At.keep (ts := [3, 10, 11]) (ids := [8]) rfl rfl ?_
 obtain ⟨hn2, H⟩ := of_must H
 refine W.rangeGo H (fun i2 (s2 : (List Int)) => [(3, .buf 8 (s2).length), (10, .int .i64 ((((List.replicate (((p0.rounds.length : Nat) : Int)).toNat (0 : Int)).length : Nat) : Int))), (11, .int .i64 ((i2 : Int)))]) (fun i2 (s2 : (List Int)) => [(8, bufL 3 1 enc_Int s2)]) (.cons .qb (.cons .qi (.cons .qi .nil))) (.cons .q .nil) (fun k2 i2 s2 hle2 H1 H2 K0 hK2 => ?_)
 refine W.rg env [3, 10, 11, 12] [8] ?_
 refine W.seq ?_
 refine W.cond rfl (fun hb3 => ?_) (fun hb3 => ?_)
 · have hi2 : i2 < (List.replicate (((p0.rounds.length : Nat) : Int)).toNat (0 : Int)).length := by have := of_decide_eq_true hb3; omega
   have H := H1 hi2
   refine W.skip ?_
   refine At.thenC ?_
   refine W.seq ?_
   refine W.block ?_
   refine W.rg env [3, 4, 10, 11] [8] ?_
   obtain ⟨hc4, H⟩ := of_must H
   refine W.region env [] [] rfl rfl rfl (.cons (⟨by first | rfl | (simp; done) | omega | (simp; omega), hc4⟩) (.cons (⟨by first | rfl | (simp; done) | omega | (simp; omega), (by have := hc4; first | omega | (simp only [List.length_set]; omega) | (simp only [Int.toNat_natCast] at *; omega) | (simp at this ⊢; omega))⟩) .nil)) .nil (At.keep (ts := [3, 10, 11]) (ids := [8]) rfl rfl ?_)
   refine At.convM (.cons (y := bufL 3 1 enc_Int (s2.set i2 (-1))) (BSim.seg (Seg.set (Seg.refl enc_Int _) (-1) rfl)) .nil) ?_
   refine At.inb ?_
   refine At.thenC ?_
   refine W.region env [] [] rfl rfl rfl (.cons (by unfold inI; have := hn2; (try unfold maxLen at this); omega) .nil) .nil (At.keep (ts := [3, 10, 11]) (ids := [8]) rfl rfl ?_)
   refine At.thenK (At.keep (ts := [3, 10, 11]) (ids := [8]) rfl rfl ?_)
   exact At.conv (.cons .qb (.cons .qi (.cons .qi .nil))) (.cons .q .nil) (hK2 hi2 (s2.set i2 (-1)) H)
 · have H := H2 (by have := of_decide_eq_false hb3; omega)
   refine W.exit ?_
   refine At.xthen ?_
   refine At.xthen ?_
   refine At.xhere ?_
   refine At.thenC ?_
   refine W.rg env [2] [8] ?_
   refine W.ret ?_
   cases H
   exact At.retK env.ty [8] 892 rfl rfl rfl rfl (.cons (.refl _) .nil) (.of_eq (by refine bufEq ?_; first | (simp [copyAt]; done) | omega | (simp [copyAt]; omega) | rfl)) hval hdom rfl
theorem c_crew_Assign (fuel : Nat) (p0 : Crew) (p1 : (List (List Int))) {r : ((List Int) × Int)} (H : crew_Assign fuel p0 p1 = some r) : Ctr Try.prog 30 [.agg [roL 4 enc_Task p0.Tasks, roL 1 enc_ListRange p0.Travel, roL 3 enc_Hand p0.Hands], roL 1 enc_ListInt p1] (.tup [roL 1 enc_Int r.1, .int .i64 (r.2)]) := by
 unfold crew_Assign at H
 refine Ctr.of_body (N := 87) Try.func30 (by kernel_rfl) (c := _) rfl Try.ntmps30 rfl (fun w0 h0 hval => ?_)
 refine W.rg env [1, 2] [2] ?_
 refine W.seq ?_
 obtain ⟨y1, hy2, H⟩ := of_bindO H
 refine W.region env [] [⟨.tup [.po y1.1.isSome [roL 4 enc_Task ((y1.1.getD default).Crew.Tasks), roL 1 enc_ListRange ((y1.1.getD default).Crew.Travel), roL 3 enc_Hand ((y1.1.getD default).Crew.Hands), roL 1 enc_Int ((y1.1.getD default).next)], .int .i64 (y1.2)], [], 0, []⟩] rfl rfl rfl .nil (.free (c_crew_asked p0 p1 hy2) .nil) (At.keep (ts := [1, 2, 6, 7]) (ids := [2]) rfl rfl ?_)
 refine At.thenC ?_
 refine W.seq ?_
 refine W.rg env [1, 2, 6, 7, 21] [2] ?_
 refine W.cond rfl (fun hb3 => ?_) (fun hb3 => ?_)
 · have H := of_true H hb3
   refine W.rg env [4, 5] [] ?_
   refine W.ret ?_
   refine At.rthen ?_
   cases H
   exact At.ret env.ty rfl rfl (fun q hq => by cases hq) (Sim.tupL (.cons (Sim.nil _ _) (.cons (.refl _) .nil))) hval
 · have H := of_false H hb3
   refine W.skip ?_
   refine At.thenC ?_
   refine W.rg env [1, 2, 8] [2, 8] ?_
   refine W.seq ?_
   obtain ⟨y4, hy5, H⟩ := of_bindO H
   refine W.region env [] [⟨.buf 900 y4.length, [(900, bufL 3 1 enc_Int y4)], 28000, []⟩] rfl rfl (by kernel_rfl) .nil (.free ((Ctr.ofO (co_crew_shift__free (⟨y1.1, p1⟩ : crew_shift) hy5))) .nil) (At.keep (ts := [1, 2, 8, 9]) (ids := [2, 8, 28900]) rfl rfl ?_)
   refine At.thenC ?_
   refine W.seq ?_
   refine W.seq ?_
   obtain ⟨y6, hy7, H⟩ := of_bindO H
   obtain ⟨y8, hy9, H⟩ := of_bindO H
   refine W.region env [] [⟨roL 1 enc_Int y6, [], 0, []⟩, ⟨.bool (y8), [], 0, []⟩] rfl rfl (by kernel_rfl) (.cons (by first | rfl | (simp; done) | omega | (simp; omega)) .nil) (.free (c_crew_shift__indices (⟨y1.1, p1⟩ : crew_shift) hy7) (.free (c_crew_shift__all fuel (⟨y1.1, p1⟩ : crew_shift) y6 y4 hy9) .nil)) (At.keep (ts := [1, 2, 8, 9, 33]) (ids := [2, 8, 28900]) rfl rfl ?_)
   refine At.thenC ?_
   refine W.cond rfl (fun hb10 => ?_) (fun hb10 => ?_)
   · have H := of_true H hb10
     refine W.rg env [4, 5] [] ?_
     refine W.ret ?_
     refine At.rthen ?_
     cases H
     exact At.ret env.ty rfl rfl (fun q hq => by cases hq) (Sim.tupL (.cons (Sim.nil _ _) (.cons (.refl _) .nil))) hval
   · have H := of_false H hb10
     refine W.skip ?_
     refine At.thenC ?_
     refine W.rg env [1, 2, 8, 9, 10] [2, 8, 28900] ?_
     refine W.seq ?_
     refine W.rg env [1, 2, 8, 9, 10, 35, 36] [2, 8, 28900] ?_
     refine W.block ?_
     refine At.nilOwn 10 510 3 1 (e := fun i => enc_Int (([] : List Int).getD i default)) rfl rfl ?_
     refine At.keep (ts := [1, 2, 8, 9, 10, 35, 36]) (ids := [2, 8, 510, 28900]) rfl rfl ?_
     refine W.len (t := 1) rfl (fun (hn11 : p1.length ≤ maxLen) => ?_)
     refine W.rangeGo H (fun i11 (s11 : (List Int) × (List Int)) => [(1, roL 1 enc_ListInt p1), (2, .lp 2 0), (8, .lp 8 0), (9, .buf 28900 (s11.1).length), (10, .buf 510 (s11.2).length), (35, .int .i64 (((p1.length : Nat) : Int))), (36, .int .i64 ((i11 : Int)))]) (fun i11 (s11 : (List Int) × (List Int)) => [(2, .cells [roL 4 enc_Task p0.Tasks, roL 1 enc_ListRange p0.Travel, roL 3 enc_Hand p0.Hands]), (8, .cells [.po y1.1.isSome [roL 4 enc_Task ((y1.1.getD default).Crew.Tasks), roL 1 enc_ListRange ((y1.1.getD default).Crew.Travel), roL 3 enc_Hand ((y1.1.getD default).Crew.Hands), roL 1 enc_Int ((y1.1.getD default).next)], roL 1 enc_ListInt p1]), (510, bufL 3 1 enc_Int s11.2), (28900, bufL 3 1 enc_Int s11.1)]) (.cons .q (.cons .q (.cons .q (.cons .qb (.cons .qb (.cons .qi (.cons .qi .nil))))))) (.cons .q (.cons .q (.cons .q (.cons .q .nil)))) (fun k11 i11 s11 hle11 H1 H2 K0 hK11 => ?_)
     refine W.rg env [1, 2, 8, 9, 10, 35, 36, 37] [2, 8, 510, 28900] ?_
     refine W.seq ?_
     refine W.cond rfl (fun hb12 => ?_) (fun hb12 => ?_)
     · have hi11 : i11 < p1.length := by have := of_decide_eq_true hb12; omega
       have H := H1 hi11
       refine W.skip ?_
       refine At.thenC ?_
       refine W.seq ?_
       refine W.block ?_
       refine W.rg env [1, 2, 8, 9, 10, 11, 35, 36] [2, 8, 510, 28900] ?_
       refine W.seq ?_
       refine W.rg env [1, 2, 8, 9, 10, 11, 35, 36, 40, 41, 42] [2, 8, 510, 28900] ?_
       refine W.block ?_
       refine At.keep (ts := [1, 2, 8, 9, 10, 11, 35, 36, 40, 41, 42]) (ids := [2, 8, 510, 28900]) rfl rfl ?_
       refine W.len (t := 40) rfl (fun (hn13 : p0.Hands.length ≤ maxLen) => ?_)
       refine W.rangeGo H (fun i13 (s13 : (List Int)) => [(1, roL 1 enc_ListInt p1), (2, .lp 2 0), (8, .lp 8 0), (9, .buf 28900 (s13).length), (10, .buf 510 (s11.2).length), (11, .int .i64 ((i11 : Int))), (35, .int .i64 (((p1.length : Nat) : Int))), (36, .int .i64 ((i11 : Int))), (40, roL 3 enc_Hand p0.Hands), (41, .int .i64 (((p0.Hands.length : Nat) : Int))), (42, .int .i64 ((i13 : Int)))]) (fun i13 (s13 : (List Int)) => [(2, .cells [roL 4 enc_Task p0.Tasks, roL 1 enc_ListRange p0.Travel, roL 3 enc_Hand p0.Hands]), (8, .cells [.po y1.1.isSome [roL 4 enc_Task ((y1.1.getD default).Crew.Tasks), roL 1 enc_ListRange ((y1.1.getD default).Crew.Travel), roL 3 enc_Hand ((y1.1.getD default).Crew.Hands), roL 1 enc_Int ((y1.1.getD default).next)], roL 1 enc_ListInt p1]), (510, bufL 3 1 enc_Int s11.2), (28900, bufL 3 1 enc_Int s13)]) (.cons .q (.cons .q (.cons .q (.cons .qb (.cons .qb (.cons .qi (.cons .qi (.cons .qi (.cons .q (.cons .qi (.cons .qi .nil))))))))))) (.cons .q (.cons .q (.cons .q (.cons .q .nil)))) (fun k13 i13 s13 hle13 H1 H2 K0 hK13 => ?_)
       refine W.rg env [1, 2, 8, 9, 10, 11, 35, 36, 40, 41, 42, 43] [2, 8, 510, 28900] ?_
       refine W.seq ?_
       refine W.cond rfl (fun hb14 => ?_) (fun hb14 => ?_)
       · have hi13 : i13 < p0.Hands.length := by have := of_decide_eq_true hb14; omega
         have H := H1 hi13
         refine W.skip ?_
         refine At.thenC ?_
         refine W.seq ?_
         refine W.block ?_
         refine W.sr env [] [] [1, 2, 8, 9, 10, 11, 12, 13, 35, 36, 40, 41, 42] [2, 8, 13, 510, 28900] rfl rfl rfl (.cons (⟨by omega, by omega⟩ : 0 ≤ (i13 : Int) ∧ (i13 : Int) < ((p0.Hands.length : Nat) : Int)) .nil) .nil ?_
         refine W.seq ?_
         refine W.seq ?_
         obtain ⟨hc15, H⟩ := of_must H
         obtain ⟨y16, hy17, H⟩ := of_bindO H
         obtain ⟨hc18, H⟩ := of_must H
         obtain ⟨y19, hy20, H⟩ := of_bindO H
         refine W.region env [] [⟨.bool (y16), [], 0, []⟩, ⟨.bool (y19), [], 0, []⟩] rfl rfl (by kernel_rfl) (.cons (⟨by omega, by omega⟩ : 0 ≤ (i11 : Int) ∧ (i11 : Int) < ((p1.length : Nat) : Int)) (.cons (fun hW => ⟨by first | rfl | (simp; done) | omega | (simp; omega), hc18 hW⟩) (.cons (fun h => h) (.cons (fun h => h) (.cons (fun hW => (by have := hc18 hW; first | omega | (simp only [Int.toNat_natCast] at *; omega) | (simp at this ⊢; omega))) (.cons (fun h => h) (.cons (fun h => h) (.cons (fun h => by rw [h]; rfl) .nil)))))))) (.free (Ctr.sim (.cons (Sim.rp_po hc15) (.cons (.refl _) (.cons (.refl _) .nil))) (c_crew_plan__able (y1.1.getD default) (p0.Hands.getD i13 default) (p1.getD i11 default) hy17)) (.on (fun hW => Ctr.sim (.cons (Sim.seg (Seg.cut enc_Int s13 0 i11 (by have := hc18 hW; omega))) (.cons (.refl _) .nil)) (c_slices_Contains_int ((s13.take i11).drop 0) (i13 : Int) (of_true hy20 hW))) .nil)) (At.keep (ts := [1, 2, 8, 9, 10, 11, 12, 35, 36, 40, 41, 42, 62]) (ids := [2, 8, 510, 28900]) rfl rfl ?_)
         refine At.thenC ?_
         refine W.cond rfl (fun hb21 => ?_) (fun hb21 => ?_)
         · have H := of_true H hb21
           refine W.exit ?_
           refine At.xthen ?_
           refine At.xhere ?_
           refine At.thenC ?_
           refine W.region env [] [] rfl rfl rfl (.cons (by unfold inI; have := hn13; (try unfold maxLen at this); omega) .nil) .nil (At.keep (ts := [1, 2, 8, 9, 10, 11, 35, 36, 40, 41, 42]) (ids := [2, 8, 510, 28900]) rfl rfl ?_)
           refine At.thenK (At.keep (ts := [1, 2, 8, 9, 10, 11, 35, 36, 40, 41, 42]) (ids := [2, 8, 510, 28900]) rfl rfl ?_)
           exact At.conv (.cons .q (.cons .q (.cons .q (.cons .qb (.cons .qb (.cons .qi (.cons .qi (.cons .qi (.cons .q (.cons .qi (.cons .qi .nil))))))))))) (.cons .q (.cons .q (.cons .q (.cons .q .nil)))) (hK13 hi13 s13 H)
         · have H := of_false H hb21
           refine W.skip ?_
           refine At.thenC ?_
           refine W.seq ?_
           obtain ⟨hc22, H⟩ := of_must H
           refine W.region env [] [] rfl rfl rfl (.cons (⟨by first | rfl | (simp; done) | omega | (simp; omega), hc22⟩) (.cons (⟨by first | rfl | (simp; done) | omega | (simp; omega), (by have := hc22; first | omega | (simp only [List.length_set]; omega) | (simp only [Int.toNat_natCast] at *; omega) | (simp at this ⊢; omega))⟩) .nil)) .nil (At.keep (ts := [1, 2, 8, 9, 10, 11, 35, 36, 40, 41, 42]) (ids := [2, 8, 510, 28900]) rfl rfl ?_)
           refine At.convM (.cons (.refl _) (.cons (.refl _) (.cons (.refl _) (.cons (y := bufL 3 1 enc_Int (s13.set i11 (i13 : Int))) (BSim.seg (Seg.set (Seg.refl enc_Int _) (i13 : Int) rfl)) .nil)))) ?_
           refine At.thenC ?_
           refine W.seq ?_
           obtain ⟨y23, hy24, H⟩ := of_bindO H
           obtain ⟨y25, hy26, H⟩ := of_bindO H
           refine W.region env [] [⟨roL 1 enc_Int y23, [], 0, []⟩, ⟨.bool (y25), [], 0, []⟩] rfl rfl (by kernel_rfl) (.cons (by first | rfl | (simp; done) | omega | (simp; omega)) .nil) (.free (c_crew_shift__indices (⟨y1.1, p1⟩ : crew_shift) hy24) (.free (c_crew_shift__all fuel (⟨y1.1, p1⟩ : crew_shift) y23 (s13.set i11 (i13 : Int)) hy26) .nil)) (At.keep (ts := [1, 2, 8, 9, 10, 11, 35, 36, 40, 41, 42, 71]) (ids := [2, 8, 510, 28900]) rfl rfl ?_)
           refine At.thenC ?_
           refine W.cond rfl (fun hb27 => ?_) (fun hb27 => ?_)
           · have H := of_true H hb27
             refine W.exit ?_
             refine At.xpast rfl ?_
             refine At.xthen ?_
             refine At.xthen ?_
             refine At.xhere ?_
             refine At.thenC ?_
             obtain ⟨hc28, H⟩ := of_must H
             obtain ⟨hc29, H⟩ := of_must H
             obtain ⟨hc30, H⟩ := of_must H
             refine W.region env [] [] rfl rfl (by first | rfl | kernel_rfl) (.cons (⟨by first | rfl | (simp; done) | omega | (simp; omega), hc28⟩) (.cons (⟨by first | rfl | (simp; done) | omega | (simp; omega), (by have := hc28; first | omega | (simp only [List.length_set]; omega) | (simp only [Int.toNat_natCast] at *; omega) | (simp at this ⊢; omega))⟩) (.cons hc29 (.cons (⟨by first | rfl | (simp; done) | omega | (simp; omega), by have := hc30; first | simpa using this | (unfold room at this ⊢; simp at this ⊢; omega)⟩) .nil)))) .nil (At.keep (ts := [1, 2, 8, 9, 10, 35, 36]) (ids := [2, 8, 510, 28900]) rfl rfl ?_)
             refine At.convM (.cons (.refl _) (.cons (.refl _) (.cons (y := bufL 3 1 enc_Int (s11.2 ++ ([(p0.Hands.getD (((s13.set i11 (i13 : Int)).getD i11 default)).toNat default).Id] : List Int))) (BSim.seg (Seg.push (Seg.refl enc_Int _) (Seg.lit (f := enc_Int) (sz := 1) ([(p0.Hands.getD (((s13.set i11 (i13 : Int)).getD i11 default)).toNat default).Id] : List Int) rfl rfl (fun _ => rfl)))) (.cons (.refl _) .nil)))) ?_
             refine At.inb ?_
             refine At.thenC ?_
             refine W.region env [] [] rfl rfl rfl (.cons (by unfold inI; have := hn11; (try unfold maxLen at this); omega) .nil) .nil (At.keep (ts := [1, 2, 8, 9, 10, 35, 36]) (ids := [2, 8, 510, 28900]) rfl rfl ?_)
             refine At.thenK (At.keep (ts := [1, 2, 8, 9, 10, 35, 36]) (ids := [2, 8, 510, 28900]) rfl rfl ?_)
             exact At.conv (.cons .q (.cons .q (.cons .q (.cons .qb (.cons .qb (.cons .qi (.cons .qi .nil))))))) (.cons .q (.cons .q (.cons .q (.cons .q .nil)))) (hK11 hi11 ((s13.set i11 (i13 : Int)), (s11.2 ++ ([(p0.Hands.getD (((s13.set i11 (i13 : Int)).getD i11 default)).toNat default).Id] : List Int))) H)
           · have H := of_false H hb27
             refine W.skip ?_
             refine At.inb ?_
             refine At.thenC ?_
             refine W.region env [] [] rfl rfl rfl (.cons (by unfold inI; have := hn13; (try unfold maxLen at this); omega) .nil) .nil (At.keep (ts := [1, 2, 8, 9, 10, 11, 35, 36, 40, 41, 42]) (ids := [2, 8, 510, 28900]) rfl rfl ?_)
             refine At.thenK (At.keep (ts := [1, 2, 8, 9, 10, 11, 35, 36, 40, 41, 42]) (ids := [2, 8, 510, 28900]) rfl rfl ?_)
             exact At.conv (.cons .q (.cons .q (.cons .q (.cons .qb (.cons .qb (.cons .qi (.cons .qi (.cons .qi (.cons .q (.cons .qi (.cons .qi .nil))))))))))) (.cons .q (.cons .q (.cons .q (.cons .q .nil)))) (hK13 hi13 (s13.set i11 (i13 : Int)) H)
       · have H := H2 (by have := of_decide_eq_false hb14; omega)
         refine W.exit ?_
         refine At.xthen ?_
         refine At.xthen ?_
         refine At.xhere ?_
         refine At.thenC ?_
         obtain ⟨hc31, H⟩ := of_must H
         obtain ⟨hc32, H⟩ := of_must H
         obtain ⟨hc33, H⟩ := of_must H
         refine W.region env [] [] rfl rfl (by first | rfl | kernel_rfl) (.cons (⟨by first | rfl | (simp; done) | omega | (simp; omega), hc31⟩) (.cons (⟨by first | rfl | (simp; done) | omega | (simp; omega), (by have := hc31; first | omega | (simp only [List.length_set]; omega) | (simp only [Int.toNat_natCast] at *; omega) | (simp at this ⊢; omega))⟩) (.cons hc32 (.cons (⟨by first | rfl | (simp; done) | omega | (simp; omega), by have := hc33; first | simpa using this | (unfold room at this ⊢; simp at this ⊢; omega)⟩) .nil)))) .nil (At.keep (ts := [1, 2, 8, 9, 10, 35, 36]) (ids := [2, 8, 510, 28900]) rfl rfl ?_)
         refine At.convM (.cons (.refl _) (.cons (.refl _) (.cons (y := bufL 3 1 enc_Int (s11.2 ++ ([(p0.Hands.getD ((s13.getD i11 default)).toNat default).Id] : List Int))) (BSim.seg (Seg.push (Seg.refl enc_Int _) (Seg.lit (f := enc_Int) (sz := 1) ([(p0.Hands.getD ((s13.getD i11 default)).toNat default).Id] : List Int) rfl rfl (fun _ => rfl)))) (.cons (.refl _) .nil)))) ?_
         refine At.inb ?_
         refine At.thenC ?_
         refine W.region env [] [] rfl rfl rfl (.cons (by unfold inI; have := hn11; (try unfold maxLen at this); omega) .nil) .nil (At.keep (ts := [1, 2, 8, 9, 10, 35, 36]) (ids := [2, 8, 510, 28900]) rfl rfl ?_)
         refine At.thenK (At.keep (ts := [1, 2, 8, 9, 10, 35, 36]) (ids := [2, 8, 510, 28900]) rfl rfl ?_)
         exact At.conv (.cons .q (.cons .q (.cons .q (.cons .qb (.cons .qb (.cons .qi (.cons .qi .nil))))))) (.cons .q (.cons .q (.cons .q (.cons .q .nil)))) (hK11 hi11 (s13, (s11.2 ++ ([(p0.Hands.getD ((s13.getD i11 default)).toNat default).Id] : List Int))) H)
     · have H := H2 (by have := of_decide_eq_false hb12; omega)
       refine W.exit ?_
       refine At.xthen ?_
       refine At.xthen ?_
       refine At.xhere ?_
       refine At.thenC ?_
       refine W.rg env [4, 5] [510] ?_
       refine W.ret ?_
       cases H
       exact At.ret env.ty rfl rfl (fun q hq => by cases hq; exact (by first | rfl | (simp; done) | omega | (simp; omega))) (.refl _) hval
theorem c_slices_Clone_Task (p0 : (List Task)) {r : (List Task)} (H : slices_Clone_Task p0 = some r) : Ctr Try.prog 103 [roL 4 enc_Task p0] (roL 4 enc_Task r) := by
 unfold slices_Clone_Task at H
 refine Ctr.of_body (N := 8) Try.func103 (by kernel_rfl) (c := _) rfl Try.ntmps103 rfl (fun w0 h0 hval => ?_)
 refine W.rg env [0] [] ?_
 refine W.seq ?_
 refine W.rg env [0, 4] [] ?_
 refine W.condNz rfl (fun hz => ?_) ?_
 · obtain rfl : p0 = [] := List.length_eq_zero_iff.1 hz
   obtain ⟨hc1, H⟩ := of_must H
   refine W.rg env [2] [] ?_
   refine W.ret ?_
   refine At.rthen ?_
   cases H
   exact At.ret env.ty rfl rfl (fun q hq => by cases hq) (Sim.nil _ _) hval
 · refine W.skip ?_
   refine At.thenC ?_
   refine W.seq ?_
   obtain ⟨hc1, H⟩ := of_must H
   refine W.region env [5] [] rfl rfl rfl (.cons (⟨by first | rfl | (simp; done) | omega | (simp; omega), by have := hc1; first | simpa using this | (unfold room at this ⊢; simp at this ⊢; omega)⟩) .nil) .nil (At.keep (ts := [2]) (ids := [5]) rfl rfl ?_)
   refine At.convM (.cons (y := bufL 67 4 enc_Task (([] : List Task) ++ p0)) (BSim.seg (Seg.push (Seg.lit (f := enc_Task) (sz := 4) ([] : List Task) rfl rfl (fun _ => rfl)) (Seg.refl enc_Task p0))) .nil) ?_
   refine At.thenC ?_
   refine W.ret ?_
   cases H
   exact At.ret env.ty rfl rfl (fun q hq => by cases hq; exact (by first | rfl | (simp; done) | omega | (simp; omega))) (.refl _) hval
theorem c_slices_Clone_Hand (p0 : (List Hand)) {r : (List Hand)} (H : slices_Clone_Hand p0 = some r) : Ctr Try.prog 104 [roL 3 enc_Hand p0] (roL 3 enc_Hand r) := by
 unfold slices_Clone_Hand at H
 refine Ctr.of_body (N := 8) Try.func104 (by kernel_rfl) (c := _) rfl Try.ntmps104 rfl (fun w0 h0 hval => ?_)
 refine W.rg env [0] [] ?_
 refine W.seq ?_
 refine W.rg env [0, 4] [] ?_
 refine W.condNz rfl (fun hz => ?_) ?_
 · obtain rfl : p0 = [] := List.length_eq_zero_iff.1 hz
   obtain ⟨hc1, H⟩ := of_must H
   refine W.rg env [2] [] ?_
   refine W.ret ?_
   refine At.rthen ?_
   cases H
   exact At.ret env.ty rfl rfl (fun q hq => by cases hq) (Sim.nil _ _) hval
 · refine W.skip ?_
   refine At.thenC ?_
   refine W.seq ?_
   obtain ⟨hc1, H⟩ := of_must H
   refine W.region env [5] [] rfl rfl rfl (.cons (⟨by first | rfl | (simp; done) | omega | (simp; omega), by have := hc1; first | simpa using this | (unfold room at this ⊢; simp at this ⊢; omega)⟩) .nil) .nil (At.keep (ts := [2]) (ids := [5]) rfl rfl ?_)
   refine At.convM (.cons (y := bufL 59 3 enc_Hand (([] : List Hand) ++ p0)) (BSim.seg (Seg.push (Seg.lit (f := enc_Hand) (sz := 3) ([] : List Hand) rfl rfl (fun _ => rfl)) (Seg.refl enc_Hand p0))) .nil) ?_
   refine At.thenC ?_
   refine W.ret ?_
   cases H
   exact At.ret env.ty rfl rfl (fun q hq => by cases hq; exact (by first | rfl | (simp; done) | omega | (simp; omega))) (.refl _) hval
theorem c_slices_Clone_Range (p0 : (List Range)) {r : (List Range)} (H : slices_Clone_Range p0 = some r) : Ctr Try.prog 105 [roL 2 enc_Range p0] (roL 2 enc_Range r) := by
 unfold slices_Clone_Range at H
 refine Ctr.of_body (N := 8) Try.func105 (by kernel_rfl) (c := _) rfl Try.ntmps105 rfl (fun w0 h0 hval => ?_)
 refine W.rg env [0] [] ?_
 refine W.seq ?_
 refine W.rg env [0, 4] [] ?_
 refine W.condNz rfl (fun hz => ?_) ?_
 · obtain rfl : p0 = [] := List.length_eq_zero_iff.1 hz
   obtain ⟨hc1, H⟩ := of_must H
   refine W.rg env [2] [] ?_
   refine W.ret ?_
   refine At.rthen ?_
   cases H
   exact At.ret env.ty rfl rfl (fun q hq => by cases hq) (Sim.nil _ _) hval
 · refine W.skip ?_
   refine At.thenC ?_
   refine W.seq ?_
   obtain ⟨hc1, H⟩ := of_must H
   refine W.region env [5] [] rfl rfl rfl (.cons (⟨by first | rfl | (simp; done) | omega | (simp; omega), by have := hc1; first | simpa using this | (unfold room at this ⊢; simp at this ⊢; omega)⟩) .nil) .nil (At.keep (ts := [2]) (ids := [5]) rfl rfl ?_)
   refine At.convM (.cons (y := bufL 49 2 enc_Range (([] : List Range) ++ p0)) (BSim.seg (Seg.push (Seg.lit (f := enc_Range) (sz := 2) ([] : List Range) rfl rfl (fun _ => rfl)) (Seg.refl enc_Range p0))) .nil) ?_
   refine At.thenC ?_
   refine W.ret ?_
   cases H
   exact At.ret env.ty rfl rfl (fun q hq => by cases hq; exact (by first | rfl | (simp; done) | omega | (simp; omega))) (.refl _) hval
theorem c_crew_copied (p0 : Crew) {r : Crew} (H : crew_copied p0 = some r) : Ctr Try.prog 83 [.agg [roL 4 enc_Task p0.Tasks, roL 1 enc_ListRange p0.Travel, roL 3 enc_Hand p0.Hands]] (.agg [roL 4 enc_Task r.Tasks, roL 1 enc_ListRange r.Travel, roL 3 enc_Hand r.Hands]) := by
 unfold crew_copied at H
 refine Ctr.of_body (N := 29) Try.func83 (by kernel_rfl) (c := _) rfl Try.ntmps83 rfl (fun w0 h0 hval => ?_)
 refine W.rg env [1, 2] [1, 2] ?_
 refine W.seq ?_
 obtain ⟨y1, hy2, H⟩ := of_bindO H
 obtain ⟨y3, hy4, H⟩ := of_bindO H
 refine W.region env [] [⟨roL 4 enc_Task y1, [], 0, []⟩, ⟨roL 3 enc_Hand y3, [], 0, []⟩] rfl rfl (by kernel_rfl) .nil (.free (c_slices_Clone_Task p0.Tasks hy2) (.free (c_slices_Clone_Hand p0.Hands hy4) .nil)) (At.keep (ts := [1, 2, 3]) (ids := [1, 2, 3]) rfl rfl ?_)
 refine At.thenC ?_
 refine W.seq ?_
 refine W.rg env [2, 3, 14, 15, 16] [2, 3] ?_
 refine W.block ?_
 refine At.nilOwnCell 3 1 751 71 1 (e := fun i => enc_ListRange (([] : List (List Range)).getD i default)) rfl rfl rfl ?_
 refine At.keep (ts := [2, 3, 14, 15, 16]) (ids := [2, 3, 751]) rfl rfl ?_
 refine W.len (t := 14) rfl (fun (hn5 : p0.Travel.length ≤ maxLen) => ?_)
 refine W.rangeGo H (fun i5 (s5 : (List (List Range))) => [(2, .lp 2 0), (3, .lp 3 0), (14, roL 1 enc_ListRange p0.Travel), (15, .int .i64 (((p0.Travel.length : Nat) : Int))), (16, .int .i64 ((i5 : Int)))]) (fun i5 (s5 : (List (List Range))) => [(2, .cells [.nilS, .nilS, .nilS]), (3, .cells [roL 4 enc_Task y1, .buf 751 (s5).length, roL 3 enc_Hand y3]), (751, bufL 71 1 enc_ListRange s5)]) (.cons .q (.cons .q (.cons .q (.cons .qi (.cons .qi .nil))))) (.cons .q (.cons (BSim.cells (.cons .q (.cons .qc (.cons .q .nil)))) (.cons .q .nil))) (fun k5 i5 s5 hle5 H1 H2 K0 hK5 => ?_)
 refine W.rg env [2, 3, 14, 15, 16, 17] [2, 3, 751] ?_
 refine W.seq ?_
 refine W.cond rfl (fun hb6 => ?_) (fun hb6 => ?_)
 · have hi5 : i5 < p0.Travel.length := by have := of_decide_eq_true hb6; omega
   have H := H1 hi5
   refine W.skip ?_
   refine At.thenC ?_
   refine W.seq ?_
   refine W.block ?_
   refine W.sr env [] [] [2, 3, 5, 14, 15, 16] [2, 3, 751] rfl rfl rfl (.cons (⟨by omega, by omega⟩ : 0 ≤ (i5 : Int) ∧ (i5 : Int) < ((p0.Travel.length : Nat) : Int)) .nil) .nil ?_
   obtain ⟨y7, hy8, H⟩ := of_bindO H
   obtain ⟨hc9, H⟩ := of_must H
   refine W.region env [] [⟨roL 2 enc_Range y7, [], 0, []⟩] rfl rfl (by kernel_rfl) (.cons (⟨by first | rfl | (simp; done) | omega | (simp; omega), by have := hc9; first | simpa using this | (unfold room at this ⊢; simp at this ⊢; omega)⟩) .nil) (.free (c_slices_Clone_Range (p0.Travel.getD i5 default) hy8) .nil) (At.keep (ts := [2, 3, 14, 15, 16]) (ids := [2, 3, 751]) rfl rfl ?_)
   refine At.convM (.cons (.refl _) (.cons (.refl _) (.cons (y := bufL 71 1 enc_ListRange (s5 ++ ([y7] : List (List Range)))) (BSim.seg (Seg.push (Seg.refl enc_ListRange _) (Seg.lit (f := enc_ListRange) (sz := 1) ([y7] : List (List Range)) rfl rfl (fun _ => rfl)))) .nil))) ?_
   refine At.inb ?_
   refine At.thenC ?_
   refine W.region env [] [] rfl rfl rfl (.cons (by unfold inI; have := hn5; (try unfold maxLen at this); omega) .nil) .nil (At.keep (ts := [2, 3, 14, 15, 16]) (ids := [2, 3, 751]) rfl rfl ?_)
   refine At.thenK (At.keep (ts := [2, 3, 14, 15, 16]) (ids := [2, 3, 751]) rfl rfl ?_)
   exact At.conv (.cons .q (.cons .q (.cons .q (.cons .qi (.cons .qi .nil))))) (.cons .q (.cons (BSim.cells (.cons .q (.cons .qc (.cons .q .nil)))) (.cons .q .nil))) (hK5 hi5 (s5 ++ ([y7] : List (List Range))) H)
 · have H := H2 (by have := of_decide_eq_false hb6; omega)
   refine W.exit ?_
   refine At.xthen ?_
   refine At.xthen ?_
   refine At.xhere ?_
   refine At.thenC ?_
   refine W.rg env [2] [2, 751] ?_
   refine W.ret ?_
   cases H
   exact At.ret env.ty rfl rfl (fun q hq => by cases hq; exact (by first | rfl | (simp; done) | omega | (simp; omega))) (.refl _) hval
theorem c_slices_IndexFunc_Hand (p0 : (List Hand)) (p1 : Hand → Option Bool) (p1_g : Nat) (p1_a p1_b : List AV) (p1_h : ∀ x0 r, p1 x0 = some r → Ctr Try.prog p1_g (p1_a ++ ([.agg [.int .i64 (x0.Id), .int .i64 (x0.From), .int .i64 (x0.To)]] ++ p1_b)) (.bool (r))) {r : Int} (H : slices_IndexFunc_Hand p0 p1 = some r) : Ctr Try.prog 79 [roL 3 enc_Hand p0, .clo (.func p1_g) p1_a p1_b] (.int .i64 (r)) := by
 unfold slices_IndexFunc_Hand at H
 refine Ctr.of_body (N := 19) Try.func79 (by kernel_rfl) (c := _) rfl Try.ntmps79 rfl (fun w0 h0 hval => ?_)
 refine W.rg env [0, 1] [] ?_
 refine W.seq ?_
 refine W.rg env [0, 1, 7, 8] [] ?_
 refine W.block ?_
 refine At.keep (ts := [0, 1, 7, 8]) (ids := []) rfl rfl ?_
 refine W.len (t := 0) rfl (fun (hn1 : p0.length ≤ maxLen) => ?_)
 refine W.rangeGo H (fun i1 (s1 : Unit) => [(0, roL 3 enc_Hand p0), (1, .clo (.func p1_g) p1_a p1_b), (7, .int .i64 (((p0.length : Nat) : Int))), (8, .int .i64 ((i1 : Int)))]) (fun i1 (s1 : Unit) => []) (.cons .q (.cons .q (.cons .qi (.cons .qi .nil)))) .nil (fun k1 i1 s1 hle1 H1 H2 K0 hK1 => ?_)
 refine W.rg env [0, 1, 7, 8, 9] [] ?_
 refine W.seq ?_
 refine W.cond rfl (fun hb2 => ?_) (fun hb2 => ?_)
 · have hi1 : i1 < p0.length := by have := of_decide_eq_true hb2; omega
   have H := H1 hi1
   refine W.skip ?_
   refine At.thenC ?_
   refine W.seq ?_
   refine W.block ?_
   refine W.rg env [0, 1, 5, 7, 8] [] ?_
   refine W.seq ?_
   obtain ⟨y3, hy4, H⟩ := of_bindO H
   refine W.region env [] [⟨.bool (y3), [], 0, []⟩] rfl rfl rfl (.cons (⟨by omega, by omega⟩ : 0 ≤ (i1 : Int) ∧ (i1 : Int) < ((p0.length : Nat) : Int)) .nil) (.free (p1_h (p0.getD i1 default) _ hy4) .nil) (At.keep (ts := [0, 1, 5, 7, 8, 16]) (ids := []) rfl rfl ?_)
   refine At.thenC ?_
   refine W.cond rfl (fun hb5 => ?_) (fun hb5 => ?_)
   · have H := of_true H hb5
     refine W.rg env [4] [] ?_
     refine W.ret ?_
     refine At.rinb ?_
     refine At.rthen ?_
     refine At.rthen ?_
     refine At.rinb ?_
     refine At.rthen ?_
     cases H
     exact At.ret env.ty rfl rfl (fun q hq => by cases hq) (.refl _) hval
   · have H := of_false H hb5
     refine W.skip ?_
     refine At.inb ?_
     refine At.thenC ?_
     refine W.region env [] [] rfl rfl rfl (.cons (by unfold inI; have := hn1; (try unfold maxLen at this); omega) .nil) .nil (At.keep (ts := [0, 1, 7, 8]) (ids := []) rfl rfl ?_)
     refine At.thenK (At.keep (ts := [0, 1, 7, 8]) (ids := []) rfl rfl ?_)
     exact At.conv (.cons .q (.cons .q (.cons .qi (.cons .qi .nil)))) .nil (hK1 hi1 () H)
 · have H := H2 (by have := of_decide_eq_false hb2; omega)
   refine W.exit ?_
   refine At.xthen ?_
   refine At.xthen ?_
   refine At.xhere ?_
   refine At.thenC ?_
   refine W.rg env [4] [] ?_
   refine W.ret ?_
   cases H
   exact At.ret env.ty rfl rfl (fun q hq => by cases hq) (.refl _) hval
theorem c_crew_Ill_1 (p0 : Hand) (c0 : Int) : Ctr Try.prog 84 [.agg [.int .i64 (p0.Id), .int .i64 (p0.From), .int .i64 (p0.To)], .rp [.int .i64 (c0)]] (.bool ((crew_Ill_1 p0 c0))) := by
 obtain ⟨r, H⟩ : ∃ r, crew_Ill_1 p0 c0 = r := ⟨_, rfl⟩
 rw [H]
 unfold crew_Ill_1 at H
 refine Ctr.of_body (N := 8) Try.func84 (by kernel_rfl) (c := _) rfl Try.ntmps84 rfl (fun w0 h0 hval => ?_)
 refine W.rg env [1, 2] [2] ?_
 refine W.rg env [3] [] ?_
 refine W.ret ?_
 cases H
 exact At.ret env.ty rfl rfl (fun q hq => by cases hq) (.refl _) hval
theorem co_slices_Clone_Hand (p0 : (List Hand)) {r : (List Hand)} (H : slices_Clone_Hand p0 = some r) : CtrO Try.prog 104 [roL 3 enc_Hand p0] [] (.buf 900 r.length) [(900, bufL 59 3 enc_Hand r)] := by
 unfold slices_Clone_Hand at H
 refine CtrO.of_body (N := 8) Try.func104 (by kernel_rfl) (c := _) rfl Try.ntmps104 rfl (fun w0 h0 ρb hval hdom => ?_)
 refine W.rg env [0] [] ?_
 refine W.seq ?_
 refine W.rg env [0, 4] [] ?_
 refine W.condNz rfl (fun hz => ?_) ?_
 · obtain rfl : p0 = [] := List.length_eq_zero_iff.1 hz
   obtain ⟨hc1, H⟩ := of_must H
   refine W.rg env [2] [] ?_
   refine W.ret ?_
   refine At.rthen ?_
   cases H
   refine At.nilOwn 2 800 59 3 (e := fun i => enc_Hand (([] : List Hand).getD i default)) rfl rfl ?_
   exact At.retK env.ty [800] 100 rfl rfl rfl rfl (.cons (.refl _) .nil) (.of_eq (by refine bufEq ?_; first | (simp [copyAt]; done) | omega | (simp [copyAt]; omega) | rfl)) hval hdom rfl
 · refine W.skip ?_
   refine At.thenC ?_
   refine W.seq ?_
   obtain ⟨hc1, H⟩ := of_must H
   refine W.region env [5] [] rfl rfl rfl (.cons (⟨by first | rfl | (simp; done) | omega | (simp; omega), by have := hc1; first | simpa using this | (unfold room at this ⊢; simp at this ⊢; omega)⟩) .nil) .nil (At.keep (ts := [2]) (ids := [5]) rfl rfl ?_)
   refine At.convM (.cons (y := bufL 59 3 enc_Hand (([] : List Hand) ++ p0)) (BSim.seg (Seg.push (Seg.lit (f := enc_Hand) (sz := 3) ([] : List Hand) rfl rfl (fun _ => rfl)) (Seg.refl enc_Hand p0))) .nil) ?_
   refine At.thenC ?_
   refine W.ret ?_
   cases H
   exact At.retK env.ty [5] 895 rfl rfl rfl rfl (.cons (.refl _) .nil) (.of_eq (by refine bufEq ?_; first | (simp [copyAt]; done) | omega | (simp [copyAt]; omega) | rfl)) hval hdom rfl
theorem co_crew_copied_o1_2 (p0 : Crew) {r : Crew} (H : crew_copied p0 = some r) : CtrO Try.prog 83 [.agg [roL 4 enc_Task p0.Tasks, roL 1 enc_ListRange p0.Travel, roL 3 enc_Hand p0.Hands]] [] (.agg [roL 4 enc_Task r.Tasks, .buf 940 (r.Travel).length, .buf 941 (r.Hands).length]) [(940, bufL 71 1 enc_ListRange r.Travel), (941, bufL 59 3 enc_Hand r.Hands)] := by
 unfold crew_copied at H
 refine CtrO.of_body (N := 29) Try.func83 (by kernel_rfl) (c := _) rfl Try.ntmps83 rfl (fun w0 h0 ρb hval hdom => ?_)
 refine W.rg env [1, 2] [1, 2] ?_
 refine W.seq ?_
 obtain ⟨y1, hy2, H⟩ := of_bindO H
 obtain ⟨y3, hy4, H⟩ := of_bindO H
 refine W.region env [] [⟨roL 4 enc_Task y1, [], 0, []⟩, ⟨.buf 900 y3.length, [(900, bufL 59 3 enc_Hand y3)], 12000, []⟩] rfl rfl (by kernel_rfl) .nil (.free (c_slices_Clone_Task p0.Tasks hy2) (.free ((Ctr.ofO (co_slices_Clone_Hand p0.Hands hy4))) .nil)) (At.keep (ts := [1, 2, 3]) (ids := [1, 2, 3, 12900]) rfl rfl ?_)
 refine At.thenC ?_
 refine W.seq ?_
 refine W.rg env [2, 3, 14, 15, 16] [2, 3, 12900] ?_
 refine W.block ?_
 refine At.nilOwnCell 3 1 751 71 1 (e := fun i => enc_ListRange (([] : List (List Range)).getD i default)) rfl rfl rfl ?_
 refine At.keep (ts := [2, 3, 14, 15, 16]) (ids := [2, 3, 751, 12900]) rfl rfl ?_
 refine W.len (t := 14) rfl (fun (hn5 : p0.Travel.length ≤ maxLen) => ?_)
 refine W.rangeGo H (fun i5 (s5 : (List (List Range))) => [(2, .lp 2 0), (3, .lp 3 0), (14, roL 1 enc_ListRange p0.Travel), (15, .int .i64 (((p0.Travel.length : Nat) : Int))), (16, .int .i64 ((i5 : Int)))]) (fun i5 (s5 : (List (List Range))) => [(2, .cells [.nilS, .nilS, .nilS]), (3, .cells [roL 4 enc_Task y1, .buf 751 (s5).length, .buf 12900 (y3).length]), (751, bufL 71 1 enc_ListRange s5), (12900, bufL 59 3 enc_Hand y3)]) (.cons .q (.cons .q (.cons .q (.cons .qi (.cons .qi .nil))))) (.cons .q (.cons (BSim.cells (.cons .q (.cons .qc (.cons .qc .nil)))) (.cons .q (.cons .q .nil)))) (fun k5 i5 s5 hle5 H1 H2 K0 hK5 => ?_)
 refine W.rg env [2, 3, 14, 15, 16, 17] [2, 3, 751, 12900] ?_
 refine W.seq ?_
 refine W.cond rfl (fun hb6 => ?_) (fun hb6 => ?_)
 · have hi5 : i5 < p0.Travel.length := by have := of_decide_eq_true hb6; omega
   have H := H1 hi5
   refine W.skip ?_
   refine At.thenC ?_
   refine W.seq ?_
   refine W.block ?_
   refine W.sr env [] [] [2, 3, 5, 14, 15, 16] [2, 3, 751, 12900] rfl rfl rfl (.cons (⟨by omega, by omega⟩ : 0 ≤ (i5 : Int) ∧ (i5 : Int) < ((p0.Travel.length : Nat) : Int)) .nil) .nil ?_
   obtain ⟨y7, hy8, H⟩ := of_bindO H
   obtain ⟨hc9, H⟩ := of_must H
   refine W.region env [] [⟨roL 2 enc_Range y7, [], 0, []⟩] rfl rfl (by kernel_rfl) (.cons (⟨by first | rfl | (simp; done) | omega | (simp; omega), by have := hc9; first | simpa using this | (unfold room at this ⊢; simp at this ⊢; omega)⟩) .nil) (.free (c_slices_Clone_Range (p0.Travel.getD i5 default) hy8) .nil) (At.keep (ts := [2, 3, 14, 15, 16]) (ids := [2, 3, 751, 12900]) rfl rfl ?_)
   refine At.convM (.cons (.refl _) (.cons (.refl _) (.cons (y := bufL 71 1 enc_ListRange (s5 ++ ([y7] : List (List Range)))) (BSim.seg (Seg.push (Seg.refl enc_ListRange _) (Seg.lit (f := enc_ListRange) (sz := 1) ([y7] : List (List Range)) rfl rfl (fun _ => rfl)))) (.cons (.refl _) .nil)))) ?_
   refine At.inb ?_
   refine At.thenC ?_
   refine W.region env [] [] rfl rfl rfl (.cons (by unfold inI; have := hn5; (try unfold maxLen at this); omega) .nil) .nil (At.keep (ts := [2, 3, 14, 15, 16]) (ids := [2, 3, 751, 12900]) rfl rfl ?_)
   refine At.thenK (At.keep (ts := [2, 3, 14, 15, 16]) (ids := [2, 3, 751, 12900]) rfl rfl ?_)
   exact At.conv (.cons .q (.cons .q (.cons .q (.cons .qi (.cons .qi .nil))))) (.cons .q (.cons (BSim.cells (.cons .q (.cons .qc (.cons .qc .nil)))) (.cons .q (.cons .q .nil)))) (hK5 hi5 (s5 ++ ([y7] : List (List Range))) H)
 · have H := H2 (by have := of_decide_eq_false hb6; omega)
   refine W.exit ?_
   refine At.xthen ?_
   refine At.xthen ?_
   refine At.xhere ?_
   refine At.thenC ?_
   refine W.rg env [2] [2, 751, 12900] ?_
   refine W.ret ?_
   cases H
   refine At.ren [(751, 940), (12900, 941)] (K := [2, 751, 12900]) (ts := [2]) rfl rfl rfl rfl rfl ?_
   exact At.retK env.ty [940, 941] 0 rfl rfl rfl rfl (.cons (.refl _) (.cons (.refl _) .nil)) (Sim.aggL (.cons (.refl _) (.cons .qc (.cons .qc .nil)))) hval hdom rfl
theorem co_slices_Delete_Hand (p0 : (List Hand)) (p1 : Int) (p2 : Int) {r : (List Hand)} (H : slices_Delete_Hand p0 p1 p2 = some r) : CtrO Try.prog 85 [.buf 700 (p0).length, .int .i64 (p1), .int .i64 (p2)] [(700, bufL 59 3 enc_Hand p0)] (.buf 900 r.length) [(900, bufL 59 3 enc_Hand r)] := by
 unfold slices_Delete_Hand at H
 refine CtrO.of_body (N := 33) Try.func85 (by kernel_rfl) (c := _) rfl Try.ntmps85 rfl (fun w0 h0 ρb hval hdom => ?_)
 refine W.rg env [0, 1, 2] [700] ?_
 obtain ⟨hc1, H⟩ := of_must H
 refine W.sr env [] [] [0, 1, 2] [700] rfl rfl rfl (.cons (by first | rfl | (simp; done) | omega | (simp; omega)) (.cons (⟨by first | rfl | (simp; done) | omega | (simp; omega), hc1⟩) .nil)) .nil ?_
 refine W.seq ?_
 refine W.rg env [0, 1, 2, 16] [700] ?_
 refine W.cond rfl (fun hb2 => ?_) (fun hb2 => ?_)
 · have H := of_true H hb2
   refine W.rg env [6] [700] ?_
   refine W.ret ?_
   refine At.rthen ?_
   cases H
   exact At.retK env.ty [700] 200 rfl rfl rfl rfl (.cons (.refl _) .nil) (.of_eq (by refine bufEq ?_; first | (simp [copyAt]; done) | omega | (simp [copyAt]; omega) | rfl)) hval hdom rfl
 · have H := of_false H hb2
   refine W.skip ?_
   refine At.thenC ?_
   refine W.sr env [] [] [0, 1, 2, 7] [700] rfl rfl rfl (.cons (by first | rfl | (simp; done) | omega | (simp; omega)) .nil) .nil ?_
   refine W.seq ?_
   obtain ⟨hc3, H⟩ := of_must H
   obtain ⟨hc4, H⟩ := of_must H
   obtain ⟨hc5, H⟩ := of_must H
   refine W.region env [] [] rfl rfl (by first | rfl | kernel_rfl) (.cons (⟨by first | rfl | (simp; done) | omega | (simp; omega), hc3⟩) (.cons (⟨by first | rfl | (simp; done) | omega | (simp; omega), hc4⟩) (.cons (⟨rfl, rfl, by omega, by omega, by omega⟩) .nil))) .nil (At.keep (ts := [0, 7]) (ids := [26]) rfl rfl ?_)
   refine At.convM (.cons (y := bufkL 59 3 p0.length enc_Hand (p0.take ((p1).toNat) ++ p0.drop ((p2).toNat))) (BSim.kseg (Seg.moved (f := enc_Hand) (l := p0) ((p1).toNat) ((p2).toNat) (by omega) (by omega))) .nil) ?_
   refine At.thenC ?_
   refine W.seq ?_
   obtain ⟨hc6, H⟩ := of_must H
   refine W.region env [] [] rfl rfl rfl (.cons (by first | rfl | (simp; done) | omega | (simp; omega)) (.cons (⟨by first | rfl | (simp; done) | omega | (simp; omega), hc6⟩) (.cons (⟨by first | rfl | (simp; done) | omega | (simp; omega), by first | rfl | (simp; done) | omega | (simp; omega), by first | omega | (simp; omega)⟩) .nil))) .nil (At.keep (ts := [0]) (ids := [26]) rfl rfl ?_)
   refine At.convM (.cons (y := bufkL 59 3 p0.length enc_Hand (p0.take ((p1).toNat) ++ p0.drop ((p2).toNat))) (BSim.kseg (Seg.refl enc_Hand _)) .nil) ?_
   refine At.thenC ?_
   refine W.rg env [6] [26] ?_
   refine W.ret ?_
   cases H
   exact At.retK env.ty [26] 874 rfl rfl rfl rfl (.cons (.bufk (.refl _)) .nil) (.of_eq (by refine bufEq ?_; first | (simp [copyAt]; done) | omega | (simp [copyAt]; omega) | rfl)) hval hdom rfl
theorem c_crew_Ill (p0 : Crew) (p1 : Int) (p2 : Int) {r : (Crew × Int)} (H : crew_Ill p0 p1 p2 = some r) : Ctr Try.prog 36 [.agg [roL 4 enc_Task p0.Tasks, roL 1 enc_ListRange p0.Travel, roL 3 enc_Hand p0.Hands], .int .i64 (p1), .int .i64 (p2)] (.tup [.agg [roL 4 enc_Task r.1.Tasks, roL 1 enc_ListRange r.1.Travel, roL 3 enc_Hand r.1.Hands], .int .i64 (r.2)]) := by
 unfold crew_Ill at H
 refine Ctr.of_body (N := 61) Try.func36 (by kernel_rfl) (c := _) rfl Try.ntmps36 rfl (fun w0 h0 hval => ?_)
 refine W.rg env [2, 3, 4, 6] [3, 4, 6] ?_
 refine W.seq ?_
 refine W.seq ?_
 obtain ⟨y1, hy2, H⟩ := of_bindO H
 refine W.region env [] [⟨.int .i64 (y1), [], 0, []⟩] rfl rfl rfl .nil (.free (c_crew_Check p0 hy2) .nil) (At.keep (ts := [2, 3, 4, 6, 8]) (ids := [3, 4, 6]) rfl rfl ?_)
 refine At.thenC ?_
 refine W.rg env [2, 3, 4, 6, 8, 15] [3, 4, 6] ?_
 refine W.cond rfl (fun hb3 => ?_) (fun hb3 => ?_)
 · have H := of_true H hb3
   refine W.rg env [6, 7] [6] ?_
   refine W.ret ?_
   refine At.rthen ?_
   cases H
   exact At.ret env.ty rfl rfl (fun q hq => by cases hq) (Sim.tupL (.cons (Sim.aggL (.cons (Sim.nil _ _) (.cons (Sim.nil _ _) (.cons (Sim.nil _ _) .nil)))) (.cons (.refl _) .nil))) hval
 · have H := of_false H hb3
   refine W.skip ?_
   refine At.thenC ?_
   refine W.seq ?_
   refine W.sr env [] [⟨.bool ((crew_isMinute p2)), [], 0, []⟩] [2, 3, 4, 6, 20] [3, 4, 6] rfl rfl rfl .nil (.free (c_crew_isMinute p2) .nil) ?_
   refine W.cond rfl (fun hb4 => ?_) (fun hb4 => ?_)
   · have H := of_true H hb4
     refine W.rg env [6, 7] [6] ?_
     refine W.ret ?_
     refine At.rthen ?_
     cases H
     exact At.ret env.ty rfl rfl (fun q hq => by cases hq) (Sim.tupL (.cons (Sim.aggL (.cons (Sim.nil _ _) (.cons (Sim.nil _ _) (.cons (Sim.nil _ _) .nil)))) (.cons (.refl _) .nil))) hval
   · have H := of_false H hb4
     refine W.skip ?_
     refine At.thenC ?_
     refine W.seq ?_
     obtain ⟨y5, hy6, H⟩ := of_bindO H
     refine W.region env [] [⟨.agg [roL 4 enc_Task y5.Tasks, .buf 940 (y5.Travel).length, .buf 941 (y5.Hands).length], [(940, bufL 71 1 enc_ListRange y5.Travel), (941, bufL 59 3 enc_Hand y5.Hands)], 24000, []⟩] rfl rfl (by kernel_rfl) .nil (.free ((Ctr.ofO (co_crew_copied_o1_2 p0 hy6))) .nil) (At.keep (ts := [2, 4, 6, 9]) (ids := [4, 6, 9, 24940, 24941]) rfl rfl ?_)
     refine At.thenC ?_
     refine W.seq ?_
     obtain ⟨y7, hy8, H⟩ := of_bindO H
     refine W.region env [] [⟨.int .i64 (y7), [], 0, []⟩] rfl rfl rfl (.cons (by first | rfl | (simp; done) | omega | (simp; omega)) .nil) (.free (c_slices_IndexFunc_Hand y5.Hands (fun x0 => some (crew_Ill_1 x0 p1)) 84 [] ([.rp [.int .i64 (p1)]]) (fun x0 r h => by cases h; exact c_crew_Ill_1 x0 p1) hy8) .nil) (At.keep (ts := [2, 6, 9, 10]) (ids := [6, 9, 24940, 24941]) rfl rfl ?_)
     refine At.thenC ?_
     refine W.seq ?_
     refine W.rg env [2, 6, 9, 10, 29] [6, 9, 24940, 24941] ?_
     refine W.cond rfl (fun hb9 => ?_) (fun hb9 => ?_)
     · have H := of_true H hb9
       refine W.rg env [6, 7] [6] ?_
       refine W.ret ?_
       refine At.rthen ?_
       cases H
       exact At.ret env.ty rfl rfl (fun q hq => by cases hq) (Sim.tupL (.cons (Sim.aggL (.cons (Sim.nil _ _) (.cons (Sim.nil _ _) (.cons (Sim.nil _ _) .nil)))) (.cons (.refl _) .nil))) hval
     · have H := of_false H hb9
       refine W.skip ?_
       refine At.thenC ?_
       obtain ⟨hc10, H⟩ := of_must H
       refine W.sr env [] [] [2, 6, 9, 10, 11] [6, 9, 24940, 24941] rfl rfl rfl (.cons (⟨by first | rfl | (simp; done) | omega | (simp; omega), hc10⟩) .nil) .nil ?_
       refine W.seq ?_
       refine W.region env [] [] rfl rfl rfl (.cons (⟨by first | rfl | (simp; done) | omega | (simp; omega), (by have := hc10; first | omega | (simp only [List.length_set]; omega) | (simp only [Int.toNat_natCast] at *; omega) | (simp at this ⊢; omega))⟩) (.cons (⟨by first | rfl | (simp; done) | omega | (simp; omega), (by have := hc10; first | omega | (simp only [List.length_set]; omega) | (simp only [Int.toNat_natCast] at *; omega) | (simp at this ⊢; omega))⟩) .nil)) .nil (At.keep (ts := [6, 9, 10, 11]) (ids := [6, 9, 24940, 24941]) rfl rfl ?_)
       refine At.convM (.cons (.refl _) (.cons (.refl _) (.cons (.refl _) (.cons (y := bufL 59 3 enc_Hand (y5.Hands.set (y7).toNat (⟨(y5.Hands.getD (y7).toNat default).Id, (y5.Hands.getD (y7).toNat default).From, (min ((y5.Hands.getD (y7).toNat default).To) p2)⟩ : Hand))) (BSim.seg (Seg.set (Seg.refl enc_Hand _) (⟨(y5.Hands.getD (y7).toNat default).Id, (y5.Hands.getD (y7).toNat default).From, (min ((y5.Hands.getD (y7).toNat default).To) p2)⟩ : Hand) rfl)) .nil)))) ?_
       refine At.thenC ?_
       refine W.seq ?_
       refine W.sr env [] [] [6, 9, 10, 52] [6, 9, 24940, 24941] rfl rfl (by first | rfl | kernel_rfl) (.cons (⟨by first | rfl | (simp; done) | omega | (simp; omega), (by have := hc10; first | omega | (simp only [List.length_set]; omega) | (simp only [Int.toNat_natCast] at *; omega) | (simp at this ⊢; omega))⟩) (.cons (⟨by first | rfl | (simp; done) | omega | (simp; omega), (by have := hc10; first | omega | (simp only [List.length_set]; omega) | (simp only [Int.toNat_natCast] at *; omega) | (simp at this ⊢; omega))⟩) .nil)) .nil ?_
       refine W.cond rfl (fun hb11 => ?_) (fun hb11 => ?_)
       · have H := of_true H hb11
         obtain ⟨hc12, H⟩ := of_must H
         obtain ⟨y13, hy14, H⟩ := of_bindO H
         refine W.region env [] [⟨.buf 900 y13.length, [(24941, .dead), (900, bufL 59 3 enc_Hand y13)], 59000, []⟩] rfl rfl (by kernel_rfl) (.cons hc12 .nil) (.free (CtrO.sim (CtrO.at (co_slices_Delete_Hand (y5.Hands.set (y7).toNat (⟨(y5.Hands.getD (y7).toNat default).Id, (y5.Hands.getD (y7).toNat default).From, (min ((y5.Hands.getD (y7).toNat default).To) p2)⟩ : Hand)) y7 (y7 + 1) hy14) rfl 24941) (.cons .qc (.cons (.refl _) (.cons (.refl _) .nil))) (.cons (.refl _) .nil)) .nil) (At.keep (ts := [6, 9]) (ids := [6, 9, 24940, 59900]) rfl rfl ?_)
         refine At.thenC ?_
         refine W.rg env [6, 7] [6, 24940, 59900] ?_
         refine W.ret ?_
         cases H
         exact At.ret env.ty rfl rfl (fun q hq => by cases hq; exact ⟨by first | rfl | (simp; done) | omega | (simp; omega), (by first | rfl | (simp; done) | omega | (simp; omega))⟩) (.refl _) hval
       · have H := of_false H hb11
         refine W.skip ?_
         refine At.thenC ?_
         refine W.rg env [6, 7] [6, 24940, 24941] ?_
         refine W.ret ?_
         cases H
         exact At.ret env.ty rfl rfl (fun q hq => by cases hq; exact ⟨by first | rfl | (simp; done) | omega | (simp; omega), (by first | rfl | (simp; done) | omega | (simp; omega))⟩) (.refl _) hval
theorem c_slices_Clone_int (p0 : (List Int)) {r : (List Int)} (H : slices_Clone_int p0 = some r) : Ctr Try.prog 76 [roL 1 enc_Int p0] (roL 1 enc_Int r) := by
 unfold slices_Clone_int at H
 refine Ctr.of_body (N := 8) Try.func76 (by kernel_rfl) (c := _) rfl Try.ntmps76 rfl (fun w0 h0 hval => ?_)
 refine W.rg env [0] [] ?_
 refine W.seq ?_
 refine W.rg env [0, 4] [] ?_
 refine W.condNz rfl (fun hz => ?_) ?_
 · obtain rfl : p0 = [] := List.length_eq_zero_iff.1 hz
   obtain ⟨hc1, H⟩ := of_must H
   refine W.rg env [2] [] ?_
   refine W.ret ?_
   refine At.rthen ?_
   cases H
   exact At.ret env.ty rfl rfl (fun q hq => by cases hq) (Sim.nil _ _) hval
 · refine W.skip ?_
   refine At.thenC ?_
   refine W.seq ?_
   obtain ⟨hc1, H⟩ := of_must H
   refine W.region env [5] [] rfl rfl rfl (.cons (⟨by first | rfl | (simp; done) | omega | (simp; omega), by have := hc1; first | simpa using this | (unfold room at this ⊢; simp at this ⊢; omega)⟩) .nil) .nil (At.keep (ts := [2]) (ids := [5]) rfl rfl ?_)
   refine At.convM (.cons (y := bufL 3 1 enc_Int (([] : List Int) ++ p0)) (BSim.seg (Seg.push (Seg.lit (f := enc_Int) (sz := 1) ([] : List Int) rfl rfl (fun _ => rfl)) (Seg.refl enc_Int p0))) .nil) ?_
   refine At.thenC ?_
   refine W.ret ?_
   cases H
   exact At.ret env.ty rfl rfl (fun q hq => by cases hq; exact (by first | rfl | (simp; done) | omega | (simp; omega))) (.refl _) hval
end Go.Sp
