/- Printed by gen.py. -/
import Derived.Test.YtnaodipmfaglfaaFr4
import Derived.Test.YtnaodipmfaglfaaFr3
import Derived.Test.YtnaodipmfaglfaaProg
import Derived.KernelRfl
set_option linter.all false
set_option maxRecDepth 100000
set_option maxHeartbeats 1000000
set_option linter.unusedVariables false
namespace Go.Sp
open Go Go.Av Go.Proofs
def enc_Int (x : Int) : List AV := [.int .i64 (x)]
def enc_Bool (x : Bool) : List AV := [.bool (x)]
def enc_ListInt (x : (List Int)) : List AV := [roL 1 enc_Int x]
def enc_Range (x : Range) : List AV := [.int .i64 (x.Lo), .int .i64 (x.Hi)]
def enc_Hand (x : Hand) : List AV := [.int .i64 (x.Id), .int .i64 (x.From), .int .i64 (x.To)]
def enc_Task (x : Task) : List AV := [.int .i64 (x.Lamp), .int .i64 (x.Place), .int .i64 (x.At), .int .i64 (x.Serve)]
def enc_ListRange (x : (List Range)) : List AV := [roL 2 enc_Range x]
def tids : List Nat := [3, 4, 22, 23, 24, 26, 27, 28, 30, 31, 45, 49, 59, 67, 71, 73, 77, 94, 95, 99, 105, 107, 120, 123]
def Γ : Tys := [(3, ⟨.int .i64, [.int .i64 0], 1, 8⟩),
 (4, ⟨.bool, [.bool false], 1, 1⟩),
 (22, ⟨.slice 67, [.slice none 0 0], 1, 24⟩),
 (23, ⟨.slice 71, [.slice none 0 0], 1, 24⟩),
 (24, ⟨.slice 59, [.slice none 0 0], 1, 24⟩),
 (26, ⟨.struct [(0, 22), (1, 23), (2, 24)], [.slice none 0 0, .slice none 0 0, .slice none 0 0], 3, 72⟩),
 (27, ⟨.slice 28, [.slice none 0 0], 1, 24⟩),
 (28, ⟨.slice 3, [.slice none 0 0], 1, 24⟩),
 (30, ⟨.struct [(0, 27), (1, 28), (2, 3), (3, 27), (4, 28)], [.slice none 0 0, .slice none 0 0, .int .i64 0, .slice none 0 0, .slice none 0 0], 5, 104⟩),
 (31, ⟨.int .i64, [.int .i64 0], 1, 8⟩),
 (45, ⟨.array 2 3, [.int .i64 0, .int .i64 0], 2, 16⟩),
 (49, ⟨.struct [(0, 3), (1, 3)], [.int .i64 0, .int .i64 0], 2, 16⟩),
 (59, ⟨.struct [(0, 3), (1, 3), (2, 3)], [.int .i64 0, .int .i64 0, .int .i64 0], 3, 24⟩),
 (67, ⟨.struct [(0, 3), (1, 3), (2, 3), (3, 3)], [.int .i64 0, .int .i64 0, .int .i64 0, .int .i64 0], 4, 32⟩),
 (71, ⟨.slice 49, [.slice none 0 0], 1, 24⟩),
 (73, ⟨.ptr 94, [.pointer none], 1, 8⟩),
 (77, ⟨.func, [.nilFunc], 1, 8⟩),
 (94, ⟨.struct [(0, 26), (3, 28)], [.slice none 0 0, .slice none 0 0, .slice none 0 0, .slice none 0 0], 4, 96⟩),
 (95, ⟨.func, [.nilFunc], 1, 8⟩),
 (99, ⟨.struct [(0, 73), (1, 27)], [.pointer none, .slice none 0 0], 2, 32⟩),
 (105, ⟨.func, [.nilFunc], 1, 8⟩),
 (107, ⟨.func, [.nilFunc], 1, 8⟩),
 (120, ⟨.int .u64, [.int .u64 0], 1, 8⟩),
 (123, ⟨.slice 4, [.slice none 0 0], 1, 24⟩)]
theorem Γ_ok : mkTys Try.prog tids = some Γ := by kernel_rfl
theorem env : Env Try.prog Γ := ⟨mkTys_sound Γ_ok, by decide +kernel, by kernel_rfl⟩
def sort_ren : Go.Shelf.Ren where
 f := fun x => match x with
   | 189 => 48
   | 125 => 94
   | 257 => 93
   | 128 => 121
   | 129 => 122
   | 294 => 112
   | 295 => 113
   | 296 => 114
   | 297 => 115
   | 298 => 116
   | 299 => 117
   | 216 => 118
   | 300 => 119
   | 301 => 120
   | 328 => 125
   | 329 => 126
   | 330 => 127
   | 331 => 128
   | 332 => 129
   | 215 => 123
   | 343 => 131
   | n => n
 t := fun x => match x with
   | 28 => 28
   | 3 => 3
   | 46 => 120
   | 0 => 0
   | 51 => 143
   | 53 => 145
   | 4 => 4
   | 183 => 136
   | 182 => 135
   | 131 => 114
   | 5 => 5
   | 9 => 9
   | 218 => 146
   | 222 => 150
   | 228 => 153
   | 229 => 154
   | n => n
 g := fun x => x
theorem sort_lays : Go.Proofs.Lays.n189 Try.prog sort_ren :=
 {
   mixed := by kernel_rfl,
   f125 := Try.func94.trans (congrArg some (by kernel_rfl)),
   f128 := Try.func121.trans (congrArg some (by kernel_rfl)),
   f129 := Try.func122.trans (congrArg some (by kernel_rfl)),
   f189 := Try.func48.trans (congrArg some (by kernel_rfl)),
   f215 := Try.func123.trans (congrArg some (by kernel_rfl)),
   f216 := Try.func118.trans (congrArg some (by kernel_rfl)),
   f257 := Try.func93.trans (congrArg some (by kernel_rfl)),
   f294 := Try.func112.trans (congrArg some (by kernel_rfl)),
   f295 := Try.func113.trans (congrArg some (by kernel_rfl)),
   f296 := Try.func114.trans (congrArg some (by kernel_rfl)),
   f297 := Try.func115.trans (congrArg some (by kernel_rfl)),
   f298 := Try.func116.trans (congrArg some (by kernel_rfl)),
   f299 := Try.func117.trans (congrArg some (by kernel_rfl)),
   f300 := Try.func119.trans (congrArg some (by kernel_rfl)),
   f301 := Try.func120.trans (congrArg some (by kernel_rfl)),
   f328 := Try.func125.trans (congrArg some (by kernel_rfl)),
   f329 := Try.func126.trans (congrArg some (by kernel_rfl)),
   f330 := Try.func127.trans (congrArg some (by kernel_rfl)),
   f331 := Try.func128.trans (congrArg some (by kernel_rfl)),
   f332 := Try.func129.trans (congrArg some (by kernel_rfl)),
   f343 := Try.func131.trans (congrArg some (by kernel_rfl)),
   t0 := Try.underlying0,
   a0 := Try.isAgg0,
   z0 := Try.sizeOf0,
   v0 := Try.zeroValue0,
   t3 := Try.underlying3,
   a3 := Try.isAgg3,
   z3 := Try.sizeOf3,
   v3 := Try.zeroValue3,
   t4 := Try.underlying4,
   a4 := Try.isAgg4,
   z4 := Try.sizeOf4,
   v4 := Try.zeroValue4,
   t5 := Try.underlying5,
   a5 := Try.isAgg5,
   z5 := Try.sizeOf5,
   v5 := Try.zeroValue5,
   t9 := Try.underlying9,
   a9 := Try.isAgg9,
   z9 := Try.sizeOf9,
   v9 := Try.zeroValue9,
   t28 := Try.underlying28,
   a28 := Try.isAgg28,
   z28 := Try.sizeOf28,
   v28 := Try.zeroValue28,
   t46 := Try.underlying120,
   a46 := Try.isAgg120,
   z46 := Try.sizeOf120,
   v46 := Try.zeroValue120,
   t51 := Try.underlying143,
   a51 := Try.isAgg143,
   z51 := Try.sizeOf143,
   v51 := Try.zeroValue143,
   t53 := Try.underlying145,
   a53 := Try.isAgg145,
   z53 := Try.sizeOf145,
   v53 := Try.zeroValue145,
   t131 := Try.underlying114,
   a131 := Try.isAgg114,
   z131 := Try.sizeOf114,
   v131 := Try.zeroValue114,
   t182 := Try.underlying135,
   a182 := Try.isAgg135,
   z182 := Try.sizeOf135,
   v182 := Try.zeroValue135,
   t183 := Try.underlying136,
   a183 := Try.isAgg136,
   z183 := Try.sizeOf136,
   v183 := Try.zeroValue136,
   t218 := Try.underlying146,
   a218 := Try.isAgg146,
   z218 := Try.sizeOf146,
   v218 := Try.zeroValue146,
   t222 := Try.underlying150,
   a222 := Try.isAgg150,
   z222 := Try.sizeOf150,
   v222 := Try.zeroValue150,
   t228 := Try.underlying153,
   a228 := Try.isAgg153,
   z228 := Try.sizeOf153,
   v228 := Try.zeroValue153,
   t229 := Try.underlying154,
   a229 := Try.isAgg154,
   z229 := Try.sizeOf154,
   v229 := Try.zeroValue154 }
theorem c_crew_in (p0 : Int) (p1 : Int) (p2 : Int) : Ctr Try.prog 62 [.int .i64 (p0), .int .i64 (p1), .int .i64 (p2)] (.bool ((crew_in p0 p1 p2))) := by
 obtain ⟨r, H⟩ : ∃ r, crew_in p0 p1 p2 = r := ⟨_, rfl⟩
 rw [H]
 unfold crew_in at H
 refine Ctr.of_body (N := 15) Try.func62 (by kernel_rfl) (c := _) rfl Try.ntmps62 rfl (fun w0 h0 hval => ?_)
 refine W.rg env [0, 1, 2] [] ?_
 refine W.sr env [] [] [6] [] rfl rfl rfl (.cons (fun h => h) (.cons (fun h => h) (.cons (fun h => h) .nil))) .nil ?_
 refine W.ret ?_
 cases H
 exact At.ret env.ty rfl rfl (fun q hq => by cases hq) (.refl _) hval
theorem c_crew_isTravel (p0 : (List (List Range))) {r : Bool} (H : crew_isTravel p0 = some r) : Ctr Try.prog 55 [roL 1 enc_ListRange p0] (.bool (r)) := by
 unfold crew_isTravel at H
 refine Ctr.of_body (N := 124) Try.func55 (by kernel_rfl) (c := _) rfl Try.ntmps55 rfl (fun w0 h0 hval => ?_)
 refine W.rg env [0] [] ?_
 refine W.seq ?_
 refine W.rg env [0, 12] [] ?_
 refine W.cond rfl (fun hb1 => ?_) (fun hb1 => ?_)
 · have H := of_true H hb1
   refine W.rg env [2] [] ?_
   refine W.ret ?_
   refine At.rthen ?_
   cases H
   exact At.ret env.ty rfl rfl (fun q hq => by cases hq) (.refl _) hval
 · have H := of_false H hb1
   refine W.skip ?_
   refine At.thenC ?_
   refine W.seq ?_
   refine W.rg env [0, 13, 14, 15] [] ?_
   refine W.block ?_
   refine At.keep (ts := [0, 13, 14, 15]) (ids := []) rfl rfl ?_
   refine W.len (t := 13) rfl (fun (hn2 : p0.length ≤ maxLen) => ?_)
   refine W.rangeGo H (fun i2 (s2 : Unit) => [(0, roL 1 enc_ListRange p0), (13, roL 1 enc_ListRange p0), (14, .int .i64 (((p0.length : Nat) : Int))), (15, .int .i64 ((i2 : Int)))]) (fun i2 (s2 : Unit) => []) (.cons .q (.cons .q (.cons .qi (.cons .qi .nil)))) .nil (fun k2 i2 s2 hle2 H1 H2 K0 hK2 => ?_)
   refine W.rg env [0, 13, 14, 15, 16] [] ?_
   refine W.seq ?_
   refine W.cond rfl (fun hb3 => ?_) (fun hb3 => ?_)
   · have hi2 : i2 < p0.length := by have := of_decide_eq_true hb3; omega
     have H := H1 hi2
     refine W.skip ?_
     refine At.thenC ?_
     refine W.seq ?_
     refine W.block ?_
     refine W.sr env [] [] [0, 3, 4, 13, 14, 15] [] rfl rfl rfl (.cons (⟨by omega, by omega⟩ : 0 ≤ (i2 : Int) ∧ (i2 : Int) < ((p0.length : Nat) : Int)) .nil) .nil ?_
     refine W.seq ?_
     obtain ⟨hc4, H⟩ := of_must H
     refine W.sr env [] [] [0, 4, 13, 14, 15, 32] [] rfl rfl rfl (.cons hc4 (.cons (fun h => h) (.cons (fun h => h) (.cons (fun h => h) (.cons (fun h => h) (.cons (fun h => h) (.cons (fun h => by rw [h]; rfl) .nil))))))) .nil ?_
     refine W.cond rfl (fun hb5 => ?_) (fun hb5 => ?_)
     · have H := of_true H hb5
       refine W.rg env [2] [] ?_
       refine W.ret ?_
       refine At.rthen ?_
       refine At.rinb ?_
       refine At.rthen ?_
       refine At.rthen ?_
       refine At.rinb ?_
       refine At.rthen ?_
       cases H
       exact At.ret env.ty rfl rfl (fun q hq => by cases hq) (.refl _) hval
     · have H := of_false H hb5
       refine W.skip ?_
       refine At.thenC ?_
       refine W.rg env [0, 13, 14, 15, 33, 34, 35] [] ?_
       refine W.block ?_
       refine At.keep (ts := [0, 13, 14, 15, 33, 34, 35]) (ids := []) rfl rfl ?_
       refine W.len (t := 33) rfl (fun (hn6 : (p0.getD i2 default).length ≤ maxLen) => ?_)
       refine W.rangeGo H (fun i6 (s6 : Unit) => [(0, roL 1 enc_ListRange p0), (13, roL 1 enc_ListRange p0), (14, .int .i64 (((p0.length : Nat) : Int))), (15, .int .i64 ((i2 : Int))), (33, roL 2 enc_Range (p0.getD i2 default)), (34, .int .i64 ((((p0.getD i2 default).length : Nat) : Int))), (35, .int .i64 ((i6 : Int)))]) (fun i6 (s6 : Unit) => []) (.cons .q (.cons .q (.cons .qi (.cons .qi (.cons .q (.cons .qi (.cons .qi .nil))))))) .nil (fun k6 i6 s6 hle6 H1 H2 K0 hK6 => ?_)
       refine W.rg env [0, 13, 14, 15, 33, 34, 35, 36] [] ?_
       refine W.seq ?_
       refine W.cond rfl (fun hb7 => ?_) (fun hb7 => ?_)
       · have hi6 : i6 < (p0.getD i2 default).length := by have := of_decide_eq_true hb7; omega
         have H := H1 hi6
         refine W.skip ?_
         refine At.thenC ?_
         refine W.seq ?_
         refine W.block ?_
         refine W.sr env [] [] [0, 6, 13, 14, 15, 33, 34, 35] [6] rfl rfl rfl (.cons (⟨by omega, by omega⟩ : 0 ≤ (i6 : Int) ∧ (i6 : Int) < (((p0.getD i2 default).length : Nat) : Int)) .nil) .nil ?_
         refine W.sr env [] [⟨.bool ((crew_in (((p0.getD i2 default).getD i6 default).Lo) 0 (((p0.getD i2 default).getD i6 default).Hi))), [], 0, []⟩] [0, 13, 14, 15, 33, 34, 35, 49] [] rfl rfl rfl (.cons (fun h => h) (.cons (fun h => h) (.cons (fun h => by rw [h]; rfl) .nil))) (.free (c_crew_in (((p0.getD i2 default).getD i6 default).Lo) 0 (((p0.getD i2 default).getD i6 default).Hi)) .nil) ?_
         refine W.cond rfl (fun hb8 => ?_) (fun hb8 => ?_)
         · have H := of_true H hb8
           refine W.rg env [2] [] ?_
           refine W.ret ?_
           refine At.rinb ?_
           refine At.rthen ?_
           refine At.rthen ?_
           refine At.rinb ?_
           refine At.rinb ?_
           refine At.rthen ?_
           refine At.rthen ?_
           refine At.rinb ?_
           refine At.rthen ?_
           cases H
           exact At.ret env.ty rfl rfl (fun q hq => by cases hq) (.refl _) hval
         · have H := of_false H hb8
           refine W.skip ?_
           refine At.inb ?_
           refine At.thenC ?_
           refine W.region env [] [] rfl rfl rfl (.cons (by unfold inI; have := hn6; (try unfold maxLen at this); omega) .nil) .nil (At.keep (ts := [0, 13, 14, 15, 33, 34, 35]) (ids := []) rfl rfl ?_)
           refine At.thenK (At.keep (ts := [0, 13, 14, 15, 33, 34, 35]) (ids := []) rfl rfl ?_)
           exact At.conv (.cons .q (.cons .q (.cons .qi (.cons .qi (.cons .q (.cons .qi (.cons .qi .nil))))))) .nil (hK6 hi6 () H)
       · have H := H2 (by have := of_decide_eq_false hb7; omega)
         refine W.exit ?_
         refine At.xthen ?_
         refine At.xthen ?_
         refine At.xhere ?_
         refine At.inb ?_
         refine At.thenC ?_
         refine W.region env [] [] rfl rfl rfl (.cons (by unfold inI; have := hn2; (try unfold maxLen at this); omega) .nil) .nil (At.keep (ts := [0, 13, 14, 15]) (ids := []) rfl rfl ?_)
         refine At.thenK (At.keep (ts := [0, 13, 14, 15]) (ids := []) rfl rfl ?_)
         exact At.conv (.cons .q (.cons .q (.cons .qi (.cons .qi .nil)))) .nil (hK2 hi2 () H)
   · have H := H2 (by have := of_decide_eq_false hb3; omega)
     refine W.exit ?_
     refine At.xthen ?_
     refine At.xthen ?_
     refine At.xhere ?_
     refine At.thenC ?_
     refine W.seq ?_
     refine W.rg env [0, 53, 54] [] ?_
     refine W.block ?_
     refine At.keep (ts := [0, 53, 54]) (ids := []) rfl rfl ?_
     refine W.len (t := 0) rfl (fun (hn9 : p0.length ≤ maxLen) => ?_)
     refine W.rangeGo H (fun i9 (s9 : Unit) => [(0, roL 1 enc_ListRange p0), (53, .int .i64 (((p0.length : Nat) : Int))), (54, .int .i64 ((i9 : Int)))]) (fun i9 (s9 : Unit) => []) (.cons .q (.cons .qi (.cons .qi .nil))) .nil (fun k9 i9 s9 hle9 H1 H2 K0 hK9 => ?_)
     refine W.rg env [0, 53, 54, 55] [] ?_
     refine W.seq ?_
     refine W.cond rfl (fun hb10 => ?_) (fun hb10 => ?_)
     · have hi9 : i9 < p0.length := by have := of_decide_eq_true hb10; omega
       have H := H1 hi9
       refine W.skip ?_
       refine At.thenC ?_
       refine W.seq ?_
       refine W.block ?_
       refine W.rg env [0, 7, 53, 54] [] ?_
       refine W.rg env [0, 7, 53, 54, 58, 59] [] ?_
       refine W.block ?_
       refine At.keep (ts := [0, 7, 53, 54, 58, 59]) (ids := []) rfl rfl ?_
       refine W.len (t := 0) rfl (fun (hn11 : p0.length ≤ maxLen) => ?_)
       refine W.rangeGo H (fun i11 (s11 : Unit) => [(0, roL 1 enc_ListRange p0), (7, .int .i64 ((i9 : Int))), (53, .int .i64 (((p0.length : Nat) : Int))), (54, .int .i64 ((i9 : Int))), (58, .int .i64 (((p0.length : Nat) : Int))), (59, .int .i64 ((i11 : Int)))]) (fun i11 (s11 : Unit) => []) (.cons .q (.cons .qi (.cons .qi (.cons .qi (.cons .qi (.cons .qi .nil)))))) .nil (fun k11 i11 s11 hle11 H1 H2 K0 hK11 => ?_)
       refine W.rg env [0, 7, 53, 54, 58, 59, 60] [] ?_
       refine W.seq ?_
       refine W.cond rfl (fun hb12 => ?_) (fun hb12 => ?_)
       · have hi11 : i11 < p0.length := by have := of_decide_eq_true hb12; omega
         have H := H1 hi11
         refine W.skip ?_
         refine At.thenC ?_
         refine W.seq ?_
         refine W.block ?_
         refine W.rg env [0, 7, 8, 53, 54, 58, 59] [] ?_
         refine W.rg env [0, 7, 8, 53, 54, 58, 59, 63, 64] [] ?_
         refine W.block ?_
         refine At.keep (ts := [0, 7, 8, 53, 54, 58, 59, 63, 64]) (ids := []) rfl rfl ?_
         refine W.len (t := 0) rfl (fun (hn13 : p0.length ≤ maxLen) => ?_)
         refine W.rangeGo H (fun i13 (s13 : Unit) => [(0, roL 1 enc_ListRange p0), (7, .int .i64 ((i9 : Int))), (8, .int .i64 ((i11 : Int))), (53, .int .i64 (((p0.length : Nat) : Int))), (54, .int .i64 ((i9 : Int))), (58, .int .i64 (((p0.length : Nat) : Int))), (59, .int .i64 ((i11 : Int))), (63, .int .i64 (((p0.length : Nat) : Int))), (64, .int .i64 ((i13 : Int)))]) (fun i13 (s13 : Unit) => []) (.cons .q (.cons .qi (.cons .qi (.cons .qi (.cons .qi (.cons .qi (.cons .qi (.cons .qi (.cons .qi .nil))))))))) .nil (fun k13 i13 s13 hle13 H1 H2 K0 hK13 => ?_)
         refine W.rg env [0, 7, 8, 53, 54, 58, 59, 63, 64, 65] [] ?_
         refine W.seq ?_
         refine W.cond rfl (fun hb14 => ?_) (fun hb14 => ?_)
         · have hi13 : i13 < p0.length := by have := of_decide_eq_true hb14; omega
           have H := H1 hi13
           refine W.skip ?_
           refine At.thenC ?_
           refine W.seq ?_
           refine W.block ?_
           refine W.rg env [0, 7, 8, 9, 53, 54, 58, 59, 63, 64] [] ?_
           obtain ⟨hc15, H⟩ := of_must H
           obtain ⟨hc16, H⟩ := of_must H
           obtain ⟨hc17, H⟩ := of_must H
           obtain ⟨hc18, H⟩ := of_must H
           obtain ⟨hc19, H⟩ := of_must H
           obtain ⟨hc20, H⟩ := of_must H
           obtain ⟨hc21, H⟩ := of_must H
           obtain ⟨hc22, H⟩ := of_must H
           refine W.sr env [] [] [0, 7, 8, 53, 54, 58, 59, 63, 64, 120] [] rfl rfl (by first | rfl | kernel_rfl) (.cons (⟨by omega, by omega⟩ : 0 ≤ (i9 : Int) ∧ (i9 : Int) < ((p0.length : Nat) : Int)) (.cons hc15 (.cons (⟨by omega, by omega⟩ : 0 ≤ (i9 : Int) ∧ (i9 : Int) < ((p0.length : Nat) : Int)) (.cons hc16 (.cons (⟨by omega, by omega⟩ : 0 ≤ (i11 : Int) ∧ (i11 : Int) < ((p0.length : Nat) : Int)) (.cons hc17 (.cons hc18 (.cons (fun _ => (⟨by omega, by omega⟩ : 0 ≤ (i9 : Int) ∧ (i9 : Int) < ((p0.length : Nat) : Int))) (.cons (fun h => h) (.cons (fun h => h) (.cons (fun h => h) (.cons hc19 (.cons (fun h => h) (.cons (fun h => h) (.cons (fun h => h) (.cons (fun h => h) (.cons (fun _ => (⟨by omega, by omega⟩ : 0 ≤ (i9 : Int) ∧ (i9 : Int) < ((p0.length : Nat) : Int))) (.cons (fun h => h) (.cons (fun h => h) (.cons (fun h => h) (.cons hc20 (.cons (fun h => h) (.cons (fun h => h) (.cons (fun h => h) (.cons (fun h => h) (.cons (fun _ => (⟨by omega, by omega⟩ : 0 ≤ (i11 : Int) ∧ (i11 : Int) < ((p0.length : Nat) : Int))) (.cons (fun h => h) (.cons (fun h => h) (.cons (fun h => h) (.cons hc21 (.cons (fun h => h) (.cons (fun h => h) (.cons (fun h => h) (.cons (fun h => h) (.cons hc22 (.cons (fun h => h) (.cons (fun h => h) (.cons (fun h => h) (.cons (fun h => h) (.cons (fun h => by rw [h]; rfl) .nil)))))))))))))))))))))))))))))))))))))))) .nil ?_
           refine W.cond rfl (fun hb23 => ?_) (fun hb23 => ?_)
           · have H := of_true H hb23
             refine W.rg env [2] [] ?_
             refine W.ret ?_
             refine At.rinb ?_
             refine At.rthen ?_
             refine At.rthen ?_
             refine At.rinb ?_
             refine At.rinb ?_
             refine At.rthen ?_
             refine At.rthen ?_
             refine At.rinb ?_
             refine At.rinb ?_
             refine At.rthen ?_
             refine At.rthen ?_
             refine At.rinb ?_
             refine At.rthen ?_
             cases H
             exact At.ret env.ty rfl rfl (fun q hq => by cases hq) (.refl _) hval
           · have H := of_false H hb23
             refine W.skip ?_
             refine At.inb ?_
             refine At.thenC ?_
             refine W.region env [] [] rfl rfl rfl (.cons (by unfold inI; have := hn13; (try unfold maxLen at this); omega) .nil) .nil (At.keep (ts := [0, 7, 8, 53, 54, 58, 59, 63, 64]) (ids := []) rfl rfl ?_)
             refine At.thenK (At.keep (ts := [0, 7, 8, 53, 54, 58, 59, 63, 64]) (ids := []) rfl rfl ?_)
             exact At.conv (.cons .q (.cons .qi (.cons .qi (.cons .qi (.cons .qi (.cons .qi (.cons .qi (.cons .qi (.cons .qi .nil))))))))) .nil (hK13 hi13 () H)
         · have H := H2 (by have := of_decide_eq_false hb14; omega)
           refine W.exit ?_
           refine At.xthen ?_
           refine At.xthen ?_
           refine At.xhere ?_
           refine At.inb ?_
           refine At.thenC ?_
           refine W.region env [] [] rfl rfl rfl (.cons (by unfold inI; have := hn11; (try unfold maxLen at this); omega) .nil) .nil (At.keep (ts := [0, 7, 53, 54, 58, 59]) (ids := []) rfl rfl ?_)
           refine At.thenK (At.keep (ts := [0, 7, 53, 54, 58, 59]) (ids := []) rfl rfl ?_)
           exact At.conv (.cons .q (.cons .qi (.cons .qi (.cons .qi (.cons .qi (.cons .qi .nil)))))) .nil (hK11 hi11 () H)
       · have H := H2 (by have := of_decide_eq_false hb12; omega)
         refine W.exit ?_
         refine At.xthen ?_
         refine At.xthen ?_
         refine At.xhere ?_
         refine At.inb ?_
         refine At.thenC ?_
         refine W.region env [] [] rfl rfl rfl (.cons (by unfold inI; have := hn9; (try unfold maxLen at this); omega) .nil) .nil (At.keep (ts := [0, 53, 54]) (ids := []) rfl rfl ?_)
         refine At.thenK (At.keep (ts := [0, 53, 54]) (ids := []) rfl rfl ?_)
         exact At.conv (.cons .q (.cons .qi (.cons .qi .nil))) .nil (hK9 hi9 () H)
     · have H := H2 (by have := of_decide_eq_false hb10; omega)
       refine W.exit ?_
       refine At.xthen ?_
       refine At.xthen ?_
       refine At.xhere ?_
       refine At.thenC ?_
       refine W.rg env [2] [] ?_
       refine W.ret ?_
       cases H
       exact At.ret env.ty rfl rfl (fun q hq => by cases hq) (.refl _) hval
theorem c_crew_isMinute (p0 : Int) : Ctr Try.prog 82 [.int .i64 (p0)] (.bool ((crew_isMinute p0))) := by
 obtain ⟨r, H⟩ : ∃ r, crew_isMinute p0 = r := ⟨_, rfl⟩
 rw [H]
 unfold crew_isMinute at H
 refine Ctr.of_body (N := 5) Try.func82 (by kernel_rfl) (c := _) rfl Try.ntmps82 rfl (fun w0 h0 hval => ?_)
 refine W.rg env [0] [] ?_
 refine W.sr env [] [⟨.bool ((crew_in p0 0 1439)), [], 0, []⟩] [2] [] rfl rfl rfl .nil (.free (c_crew_in p0 0 1439) .nil) ?_
 refine W.ret ?_
 cases H
 exact At.ret env.ty rfl rfl (fun q hq => by cases hq) (.refl _) hval
theorem c_crew_CheckTask (p0 : Task) : Ctr Try.prog 56 [.agg [.int .i64 (p0.Lamp), .int .i64 (p0.Place), .int .i64 (p0.At), .int .i64 (p0.Serve)]] (.int .i64 ((crew_CheckTask p0))) := by
 obtain ⟨r, H⟩ : ∃ r, crew_CheckTask p0 = r := ⟨_, rfl⟩
 rw [H]
 unfold crew_CheckTask at H
 refine Ctr.of_body (N := 25) Try.func56 (by kernel_rfl) (c := _) rfl Try.ntmps56 rfl (fun w0 h0 hval => ?_)
 refine W.rg env [1] [1] ?_
 refine W.seq ?_
 refine W.sr env [] [⟨.bool ((crew_in p0.Lamp 1 999)), [], 0, []⟩, ⟨.bool ((crew_in p0.Place 0 11)), [], 0, []⟩, ⟨.bool ((crew_isMinute p0.At)), [], 0, []⟩, ⟨.bool ((crew_in p0.Serve 1 120)), [], 0, []⟩] [24] [] rfl rfl rfl (.cons (fun h => h) (.cons (fun h => h) (.cons (fun h => h) (.cons (fun h => by rw [h]; rfl) (.cons (fun h => h) (.cons (fun h => h) (.cons (fun h => h) (.cons (fun h => by rw [h]; rfl) (.cons (fun h => h) (.cons (fun h => h) (.cons (fun h => h) (.cons (fun h => by rw [h]; rfl) .nil)))))))))))) (.free (c_crew_in p0.Lamp 1 999) (.on (fun hW => c_crew_in p0.Place 0 11) (.on (fun hW => c_crew_isMinute p0.At) (.on (fun hW => c_crew_in p0.Serve 1 120) .nil)))) ?_
 refine W.cond rfl (fun hb1 => ?_) (fun hb1 => ?_)
 · have H := of_true H hb1
   refine W.rg env [2] [] ?_
   refine W.ret ?_
   refine At.rthen ?_
   cases H
   exact At.ret env.ty rfl rfl (fun q hq => by cases hq) (.refl _) hval
 · have H := of_false H hb1
   refine W.skip ?_
   refine At.thenC ?_
   refine W.rg env [2] [] ?_
   refine W.ret ?_
   cases H
   exact At.ret env.ty rfl rfl (fun q hq => by cases hq) (.refl _) hval
theorem c_crew_CheckHand (p0 : Hand) : Ctr Try.prog 57 [.agg [.int .i64 (p0.Id), .int .i64 (p0.From), .int .i64 (p0.To)]] (.int .i64 ((crew_CheckHand p0))) := by
 obtain ⟨r, H⟩ : ∃ r, crew_CheckHand p0 = r := ⟨_, rfl⟩
 rw [H]
 unfold crew_CheckHand at H
 refine Ctr.of_body (N := 21) Try.func57 (by kernel_rfl) (c := _) rfl Try.ntmps57 rfl (fun w0 h0 hval => ?_)
 refine W.rg env [1] [1] ?_
 refine W.seq ?_
 refine W.sr env [] [⟨.bool ((crew_in p0.Id 1 99)), [], 0, []⟩, ⟨.bool ((crew_isMinute p0.From)), [], 0, []⟩, ⟨.bool ((crew_in p0.To p0.From 1439)), [], 0, []⟩] [20] [] rfl rfl rfl (.cons (fun h => h) (.cons (fun h => h) (.cons (fun h => h) (.cons (fun h => by rw [h]; rfl) (.cons (fun h => h) (.cons (fun h => h) (.cons (fun h => h) (.cons (fun h => h) (.cons (fun h => h) (.cons (fun h => by rw [h]; rfl) .nil)))))))))) (.free (c_crew_in p0.Id 1 99) (.on (fun hW => c_crew_isMinute p0.From) (.on (fun hW => c_crew_in p0.To p0.From 1439) .nil))) ?_
 refine W.cond rfl (fun hb1 => ?_) (fun hb1 => ?_)
 · have H := of_true H hb1
   refine W.rg env [2] [] ?_
   refine W.ret ?_
   refine At.rthen ?_
   cases H
   exact At.ret env.ty rfl rfl (fun q hq => by cases hq) (.refl _) hval
 · have H := of_false H hb1
   refine W.skip ?_
   refine At.thenC ?_
   refine W.rg env [2] [] ?_
   refine W.ret ?_
   cases H
   exact At.ret env.ty rfl rfl (fun q hq => by cases hq) (.refl _) hval
theorem c_crew_Check (p0 : Crew) {r : Int} (H : crew_Check p0 = some r) : Ctr Try.prog 16 [.agg [roL 4 enc_Task p0.Tasks, roL 1 enc_ListRange p0.Travel, roL 3 enc_Hand p0.Hands]] (.int .i64 (r)) := by
 unfold crew_Check at H
 refine Ctr.of_body (N := 87) Try.func16 (by kernel_rfl) (c := _) rfl Try.ntmps16 rfl (fun w0 h0 hval => ?_)
 refine W.rg env [1] [1] ?_
 refine W.seq ?_
 refine W.seq ?_
 obtain ⟨y1, hy2, H⟩ := of_bindO H
 refine W.region env [] [⟨.bool (y1), [], 0, []⟩] rfl rfl rfl (.cons (fun h => h) (.cons (fun h => h) (.cons (fun h => h) (.cons (fun h => by rw [h]; rfl) (.cons (fun h => h) (.cons (fun h => h) (.cons (fun h => h) (.cons (fun h => by rw [h]; rfl) .nil)))))))) (.on (fun hW => c_crew_isTravel p0.Travel (of_true hy2 hW)) .nil) (At.keep (ts := [1, 22]) (ids := [1]) rfl rfl ?_)
 refine At.thenC ?_
 refine W.cond rfl (fun hb3 => ?_) (fun hb3 => ?_)
 · have H := of_true H hb3
   refine W.rg env [2] [] ?_
   refine W.ret ?_
   refine At.rthen ?_
   cases H
   exact At.ret env.ty rfl rfl (fun q hq => by cases hq) (.refl _) hval
 · have H := of_false H hb3
   refine W.skip ?_
   refine At.thenC ?_
   refine W.seq ?_
   refine W.rg env [1, 24, 25, 26] [1] ?_
   refine W.block ?_
   refine At.keep (ts := [1, 24, 25, 26]) (ids := [1]) rfl rfl ?_
   refine W.len (t := 24) rfl (fun (hn4 : p0.Tasks.length ≤ maxLen) => ?_)
   refine W.rangeGo H (fun i4 (s4 : Unit) => [(1, .lp 1 0), (24, roL 4 enc_Task p0.Tasks), (25, .int .i64 (((p0.Tasks.length : Nat) : Int))), (26, .int .i64 ((i4 : Int)))]) (fun i4 (s4 : Unit) => [(1, .cells [roL 4 enc_Task p0.Tasks, roL 1 enc_ListRange p0.Travel, roL 3 enc_Hand p0.Hands])]) (.cons .q (.cons .q (.cons .qi (.cons .qi .nil)))) (.cons .q .nil) (fun k4 i4 s4 hle4 H1 H2 K0 hK4 => ?_)
   refine W.rg env [1, 24, 25, 26, 27] [1] ?_
   refine W.seq ?_
   refine W.cond rfl (fun hb5 => ?_) (fun hb5 => ?_)
   · have hi4 : i4 < p0.Tasks.length := by have := of_decide_eq_true hb5; omega
     have H := H1 hi4
     refine W.skip ?_
     refine At.thenC ?_
     refine W.seq ?_
     refine W.block ?_
     refine W.sr env [] [] [1, 3, 4, 24, 25, 26] [1, 4] rfl rfl rfl (.cons (⟨by omega, by omega⟩ : 0 ≤ (i4 : Int) ∧ (i4 : Int) < ((p0.Tasks.length : Nat) : Int)) .nil) .nil ?_
     obtain ⟨hc6, H⟩ := of_must H
     obtain ⟨hc7, H⟩ := of_must H
     refine W.sr env [] [⟨.int .i64 ((crew_CheckTask (p0.Tasks.getD i4 default))), [], 0, []⟩] [1, 24, 25, 26, 57] [1] rfl rfl (by kernel_rfl) (.cons (fun h => h) (.cons (fun h => h) (.cons (fun h => h) (.cons (fun h => h) (.cons (fun h => h) (.cons (fun h => by rw [h]; rfl) (.cons (fun h => h) (.cons (fun h => h) (.cons (fun h => h) (.cons hc6 (.cons (fun h => h) (.cons hc7 (.cons (fun h => h) (.cons (fun h => h) (.cons (fun h => h) (.cons (fun h => h) (.cons (fun h => h) (.cons (fun h => h) (.cons (fun h => h) (.cons (fun h => h) (.cons (fun hW h => by revert hW h; first | (simp +contextual; done) | grind) (.cons (fun h => by rw [h]; rfl) .nil)))))))))))))))))))))) (.free (c_crew_CheckTask (p0.Tasks.getD i4 default)) .nil) ?_
     refine W.cond rfl (fun hb8 => ?_) (fun hb8 => ?_)
     · have H := of_true H hb8
       refine W.rg env [2] [] ?_
       refine W.ret ?_
       refine At.rinb ?_
       refine At.rthen ?_
       refine At.rthen ?_
       refine At.rinb ?_
       refine At.rthen ?_
       cases H
       exact At.ret env.ty rfl rfl (fun q hq => by cases hq) (.refl _) hval
     · have H := of_false H hb8
       refine W.skip ?_
       refine At.inb ?_
       refine At.thenC ?_
       refine W.region env [] [] rfl rfl rfl (.cons (by unfold inI; have := hn4; (try unfold maxLen at this); omega) .nil) .nil (At.keep (ts := [1, 24, 25, 26]) (ids := [1]) rfl rfl ?_)
       refine At.thenK (At.keep (ts := [1, 24, 25, 26]) (ids := [1]) rfl rfl ?_)
       exact At.conv (.cons .q (.cons .q (.cons .qi (.cons .qi .nil)))) (.cons .q .nil) (hK4 hi4 () H)
   · have H := H2 (by have := of_decide_eq_false hb5; omega)
     refine W.exit ?_
     refine At.xthen ?_
     refine At.xthen ?_
     refine At.xhere ?_
     refine At.thenC ?_
     refine W.seq ?_
     refine W.rg env [1, 60, 61, 62] [1] ?_
     refine W.block ?_
     refine At.keep (ts := [1, 60, 61, 62]) (ids := [1]) rfl rfl ?_
     refine W.len (t := 60) rfl (fun (hn9 : p0.Hands.length ≤ maxLen) => ?_)
     refine W.rangeGo H (fun i9 (s9 : Unit) => [(1, .lp 1 0), (60, roL 3 enc_Hand p0.Hands), (61, .int .i64 (((p0.Hands.length : Nat) : Int))), (62, .int .i64 ((i9 : Int)))]) (fun i9 (s9 : Unit) => [(1, .cells [roL 4 enc_Task p0.Tasks, roL 1 enc_ListRange p0.Travel, roL 3 enc_Hand p0.Hands])]) (.cons .q (.cons .q (.cons .qi (.cons .qi .nil)))) (.cons .q .nil) (fun k9 i9 s9 hle9 H1 H2 K0 hK9 => ?_)
     refine W.rg env [1, 60, 61, 62, 63] [1] ?_
     refine W.seq ?_
     refine W.cond rfl (fun hb10 => ?_) (fun hb10 => ?_)
     · have hi9 : i9 < p0.Hands.length := by have := of_decide_eq_true hb10; omega
       have H := H1 hi9
       refine W.skip ?_
       refine At.thenC ?_
       refine W.seq ?_
       refine W.block ?_
       refine W.sr env [] [] [1, 5, 6, 60, 61, 62] [1, 6] rfl rfl rfl (.cons (⟨by omega, by omega⟩ : 0 ≤ (i9 : Int) ∧ (i9 : Int) < ((p0.Hands.length : Nat) : Int)) .nil) .nil ?_
       obtain ⟨hc11, H⟩ := of_must H
       obtain ⟨hc12, H⟩ := of_must H
       refine W.sr env [] [⟨.int .i64 ((crew_CheckHand (p0.Hands.getD i9 default))), [], 0, []⟩] [1, 60, 61, 62, 85] [1] rfl rfl (by kernel_rfl) (.cons (fun h => h) (.cons (fun h => h) (.cons (fun h => h) (.cons hc11 (.cons (fun h => h) (.cons hc12 (.cons (fun h => h) (.cons (fun h => h) (.cons (fun h => h) (.cons (fun h => h) (.cons (fun h => h) (.cons (fun h => h) (.cons (fun h => h) (.cons (fun h => h) (.cons (fun hW h => by revert hW h; first | (simp +contextual; done) | grind) (.cons (fun h => by rw [h]; rfl) .nil)))))))))))))))) (.free (c_crew_CheckHand (p0.Hands.getD i9 default)) .nil) ?_
       refine W.cond rfl (fun hb13 => ?_) (fun hb13 => ?_)
       · have H := of_true H hb13
         refine W.rg env [2] [] ?_
         refine W.ret ?_
         refine At.rinb ?_
         refine At.rthen ?_
         refine At.rthen ?_
         refine At.rinb ?_
         refine At.rthen ?_
         cases H
         exact At.ret env.ty rfl rfl (fun q hq => by cases hq) (.refl _) hval
       · have H := of_false H hb13
         refine W.skip ?_
         refine At.inb ?_
         refine At.thenC ?_
         refine W.region env [] [] rfl rfl rfl (.cons (by unfold inI; have := hn9; (try unfold maxLen at this); omega) .nil) .nil (At.keep (ts := [1, 60, 61, 62]) (ids := [1]) rfl rfl ?_)
         refine At.thenK (At.keep (ts := [1, 60, 61, 62]) (ids := [1]) rfl rfl ?_)
         exact At.conv (.cons .q (.cons .q (.cons .qi (.cons .qi .nil)))) (.cons .q .nil) (hK9 hi9 () H)
     · have H := H2 (by have := of_decide_eq_false hb10; omega)
       refine W.exit ?_
       refine At.xthen ?_
       refine At.xthen ?_
       refine At.xhere ?_
       refine At.thenC ?_
       refine W.rg env [2] [] ?_
       refine W.ret ?_
       cases H
       exact At.ret env.ty rfl rfl (fun q hq => by cases hq) (.refl _) hval
theorem c_crew_spare (p0 : Crew) (p1 : Int) (p2 : Int) (p3 : Range → Option Int) (p3_g : Nat) (p3_a p3_b : List AV) (p3_h : ∀ x0 r, p3 x0 = some r → Ctr Try.prog p3_g (p3_a ++ ([.agg [.int .i64 (x0.Lo), .int .i64 (x0.Hi)]] ++ p3_b)) (.int .i64 (r))) {r : Int} (H : crew_spare p0 p1 p2 p3 = some r) : Ctr Try.prog 45 [.agg [roL 4 enc_Task p0.Tasks, roL 1 enc_ListRange p0.Travel, roL 3 enc_Hand p0.Hands], .int .i64 (p1), .int .i64 (p2), .clo (.func p3_g) p3_a p3_b] (.int .i64 (r)) := by
 unfold crew_spare at H
 refine Ctr.of_body (N := 42) Try.func45 (by kernel_rfl) (c := _) rfl Try.ntmps45 rfl (fun w0 h0 hval => ?_)
 refine W.rg env [1, 2, 3, 4] [4] ?_
 obtain ⟨hc1, H⟩ := of_must H
 obtain ⟨hc2, H⟩ := of_must H
 refine W.sr env [] [] [3, 4, 9, 10] [4, 9, 10] rfl rfl (by first | rfl | kernel_rfl) (.cons hc1 (.cons hc2 .nil)) .nil ?_
 refine W.seq ?_
 obtain ⟨hc3, H⟩ := of_must H
 obtain ⟨hc4, H⟩ := of_must H
 obtain ⟨hc5, H⟩ := of_must H
 obtain ⟨hc6, H⟩ := of_must H
 obtain ⟨y7, hy8, H⟩ := of_bindO H
 obtain ⟨hc9, H⟩ := of_must H
 refine W.region env [] [⟨.int .i64 (y7), [], 0, []⟩] rfl rfl (by kernel_rfl) (.cons hc3 (.cons hc4 (.cons hc5 (.cons hc6 (.cons hc9 .nil))))) (.free (p3_h ((p0.Travel.getD ((p0.Tasks.getD (p1).toNat default).Place).toNat default).getD ((p0.Tasks.getD (p2).toNat default).Place).toNat default) _ hy8) .nil) (At.keep (ts := [8]) (ids := []) rfl rfl ?_)
 refine At.thenC ?_
 refine W.ret ?_
 cases H
 exact At.ret env.ty rfl rfl (fun q hq => by cases hq) (.refl _) hval
theorem c_crew_least (p0 : Range) : Ctr Try.prog 63 [.agg [.int .i64 (p0.Lo), .int .i64 (p0.Hi)]] (.int .i64 ((crew_least p0))) := by
 obtain ⟨r, H⟩ : ∃ r, crew_least p0 = r := ⟨_, rfl⟩
 rw [H]
 unfold crew_least at H
 refine Ctr.of_body (N := 5) Try.func63 (by kernel_rfl) (c := _) rfl Try.ntmps63 rfl (fun w0 h0 hval => ?_)
 refine W.rg env [1] [1] ?_
 refine W.rg env [2] [] ?_
 refine W.ret ?_
 cases H
 exact At.ret env.ty rfl rfl (fun q hq => by cases hq) (.refl _) hval
theorem c_crew_most (p0 : Range) : Ctr Try.prog 46 [.agg [.int .i64 (p0.Lo), .int .i64 (p0.Hi)]] (.int .i64 ((crew_most p0))) := by
 obtain ⟨r, H⟩ : ∃ r, crew_most p0 = r := ⟨_, rfl⟩
 rw [H]
 unfold crew_most at H
 refine Ctr.of_body (N := 5) Try.func46 (by kernel_rfl) (c := _) rfl Try.ntmps46 rfl (fun w0 h0 hval => ?_)
 refine W.rg env [1] [1] ?_
 refine W.rg env [2] [] ?_
 refine W.ret ?_
 cases H
 exact At.ret env.ty rfl rfl (fun q hq => by cases hq) (.refl _) hval
theorem c_crew_Follows (p0 : Crew) (p1 : Int) (p2 : Int) {r : (Int × Int)} (H : crew_Follows p0 p1 p2 = some r) : Ctr Try.prog 20 [.agg [roL 4 enc_Task p0.Tasks, roL 1 enc_ListRange p0.Travel, roL 3 enc_Hand p0.Hands], .int .i64 (p1), .int .i64 (p2)] (.tup [.int .i64 (r.1), .int .i64 (r.2)]) := by
 unfold crew_Follows at H
 refine Ctr.of_body (N := 49) Try.func20 (by kernel_rfl) (c := _) rfl Try.ntmps20 rfl (fun w0 h0 hval => ?_)
 refine W.rg env [1, 2, 3] [3] ?_
 refine W.seq ?_
 obtain ⟨y1, hy2, H⟩ := of_bindO H
 refine W.region env [] [⟨.int .i64 (y1), [], 0, []⟩] rfl rfl rfl .nil (.free (c_crew_Check p0 hy2) .nil) (At.keep (ts := [1, 2, 3, 8]) (ids := [3]) rfl rfl ?_)
 refine At.thenC ?_
 refine W.seq ?_
 refine W.block ?_
 refine W.rg env [1, 2, 3, 8, 11] [3] ?_
 refine W.cond rfl (fun hb3 => ?_) (fun hb3 => ?_)
 · have H := of_true H hb3
   refine W.rg env [6, 7] [] ?_
   refine W.ret ?_
   refine At.rinb ?_
   refine At.rthen ?_
   cases H
   exact At.ret env.ty rfl rfl (fun q hq => by cases hq) (.refl _) hval
 · have H := of_false H hb3
   obtain ⟨hc4, H⟩ := of_must H
   obtain ⟨hc5, H⟩ := of_must H
   refine W.sr env [] [⟨.bool ((crew_in p1 0 (((p0.Tasks.length : Nat) : Int) - 1))), [], 0, []⟩, ⟨.bool ((crew_in p2 0 (((p0.Tasks.length : Nat) : Int) - 1))), [], 0, []⟩] [1, 2, 3, 15] [3] rfl rfl rfl (.cons hc4 (.cons (fun h => h) (.cons (fun h => h) (.cons hc5 (.cons (fun h => h) (.cons (fun h => h) (.cons (fun h => h) (.cons (fun h => h) (.cons (fun h => by rw [h]; rfl) .nil))))))))) (.free (c_crew_in p1 0 (((p0.Tasks.length : Nat) : Int) - 1)) (.on (fun hW => c_crew_in p2 0 (((p0.Tasks.length : Nat) : Int) - 1)) .nil)) ?_
   refine W.cond rfl (fun hb6 => ?_) (fun hb6 => ?_)
   · have H := of_true H hb6
     refine W.rg env [6, 7] [] ?_
     refine W.ret ?_
     refine At.rinb ?_
     refine At.rthen ?_
     cases H
     exact At.ret env.ty rfl rfl (fun q hq => by cases hq) (.refl _) hval
   · have H := of_false H hb6
     refine W.seq ?_
     obtain ⟨y7, hy8, H⟩ := of_bindO H
     refine W.region env [] [⟨.int .i64 (y7), [], 0, []⟩] rfl rfl rfl (.cons (fun h => h) (.cons (fun h => h) (.cons (fun h => h) (.cons (fun h => h) (.cons (fun h => by rw [h]; rfl) .nil))))) (.on (fun hW => c_crew_spare p0 p1 p2 (fun x0 => some (crew_least x0)) 63 [] [] (fun x0 r h => by cases h; exact c_crew_least x0) (of_true hy8 hW)) .nil) (At.keep (ts := [1, 2, 3, 32]) (ids := [3]) rfl rfl ?_)
     refine At.thenC ?_
     refine W.cond rfl (fun hb9 => ?_) (fun hb9 => ?_)
     · have H := of_true H hb9
       refine W.rg env [6, 7] [] ?_
       refine W.ret ?_
       refine At.rinb ?_
       refine At.rthen ?_
       cases H
       exact At.ret env.ty rfl rfl (fun q hq => by cases hq) (.refl _) hval
     · have H := of_false H hb9
       refine W.seq ?_
       obtain ⟨y10, hy11, H⟩ := of_bindO H
       refine W.region env [] [⟨.int .i64 (y10), [], 0, []⟩] rfl rfl rfl .nil (.free (c_crew_spare p0 p1 p2 (fun x0 => some (crew_most x0)) 46 [] [] (fun x0 r h => by cases h; exact c_crew_most x0) hy11) .nil) (At.keep (ts := [43]) (ids := []) rfl rfl ?_)
       refine At.thenC ?_
       refine W.cond rfl (fun hb12 => ?_) (fun hb12 => ?_)
       · have H := of_true H hb12
         refine W.rg env [6, 7] [] ?_
         refine W.ret ?_
         refine At.rinb ?_
         refine At.rthen ?_
         cases H
         exact At.ret env.ty rfl rfl (fun q hq => by cases hq) (.refl _) hval
       · have H := of_false H hb12
         refine W.skip ?_
         refine At.inb ?_
         refine At.thenC ?_
         refine W.rg env [6, 7] [] ?_
         refine W.ret ?_
         cases H
         exact At.ret env.ty rfl rfl (fun q hq => by cases hq) (.refl _) hval
theorem c_gasolierref01_IsRange (p0 : Range) (p1 : Int) (p2 : Int) : Ctr Try.prog 95 [.agg [.int .i64 (p0.Lo), .int .i64 (p0.Hi)], .int .i64 (p1), .int .i64 (p2)] (.bool ((gasolierref01_IsRange p0 p1 p2))) := by
 obtain ⟨r, H⟩ : ∃ r, gasolierref01_IsRange p0 p1 p2 = r := ⟨_, rfl⟩
 rw [H]
 unfold gasolierref01_IsRange at H
 refine Ctr.of_body (N := 24) Try.func95 (by kernel_rfl) (c := _) rfl Try.ntmps95 rfl (fun w0 h0 hval => ?_)
 refine W.rg env [1, 2, 3] [3] ?_
 refine W.sr env [] [] [6] [] rfl rfl rfl (.cons (fun h => h) (.cons (fun h => h) (.cons (fun h => h) (.cons (fun h => h) (.cons (fun h => h) (.cons (fun h => h) (.cons (fun h => h) (.cons (fun h => h) (.cons (fun h => h) .nil))))))))) .nil ?_
 refine W.ret ?_
 cases H
 exact At.ret env.ty rfl rfl (fun q hq => by cases hq) (.refl _) hval
theorem c_gasolierref04_isTravel (p0 : (List (List Range))) {r : Bool} (H : gasolierref04_isTravel p0 = some r) : Ctr Try.prog 52 [roL 1 enc_ListRange p0] (.bool (r)) := by
 unfold gasolierref04_isTravel at H
 refine Ctr.of_body (N := 116) Try.func52 (by kernel_rfl) (c := _) rfl Try.ntmps52 rfl (fun w0 h0 hval => ?_)
 refine W.rg env [0] [] ?_
 refine W.seq ?_
 refine W.rg env [0, 12] [] ?_
 refine W.cond rfl (fun hb1 => ?_) (fun hb1 => ?_)
 · have H := of_true H hb1
   refine W.rg env [2] [] ?_
   refine W.ret ?_
   refine At.rthen ?_
   cases H
   exact At.ret env.ty rfl rfl (fun q hq => by cases hq) (.refl _) hval
 · have H := of_false H hb1
   refine W.skip ?_
   refine At.thenC ?_
   refine W.seq ?_
   refine W.rg env [0, 13, 14, 15] [] ?_
   refine W.block ?_
   refine At.keep (ts := [0, 13, 14, 15]) (ids := []) rfl rfl ?_
   refine W.len (t := 13) rfl (fun (hn2 : p0.length ≤ maxLen) => ?_)
   refine W.rangeGo H (fun i2 (s2 : Unit) => [(0, roL 1 enc_ListRange p0), (13, roL 1 enc_ListRange p0), (14, .int .i64 (((p0.length : Nat) : Int))), (15, .int .i64 ((i2 : Int)))]) (fun i2 (s2 : Unit) => []) (.cons .q (.cons .q (.cons .qi (.cons .qi .nil)))) .nil (fun k2 i2 s2 hle2 H1 H2 K0 hK2 => ?_)
   refine W.rg env [0, 13, 14, 15, 16] [] ?_
   refine W.seq ?_
   refine W.cond rfl (fun hb3 => ?_) (fun hb3 => ?_)
   · have hi2 : i2 < p0.length := by have := of_decide_eq_true hb3; omega
     have H := H1 hi2
     refine W.skip ?_
     refine At.thenC ?_
     refine W.seq ?_
     refine W.block ?_
     refine W.sr env [] [] [0, 3, 4, 13, 14, 15] [] rfl rfl rfl (.cons (⟨by omega, by omega⟩ : 0 ≤ (i2 : Int) ∧ (i2 : Int) < ((p0.length : Nat) : Int)) .nil) .nil ?_
     refine W.seq ?_
     obtain ⟨hc4, H⟩ := of_must H
     refine W.sr env [] [] [0, 4, 13, 14, 15, 32] [] rfl rfl rfl (.cons hc4 (.cons (fun h => h) (.cons (fun h => h) (.cons (fun h => h) (.cons (fun h => h) (.cons (fun h => h) (.cons (fun h => by rw [h]; rfl) .nil))))))) .nil ?_
     refine W.cond rfl (fun hb5 => ?_) (fun hb5 => ?_)
     · have H := of_true H hb5
       refine W.rg env [2] [] ?_
       refine W.ret ?_
       refine At.rthen ?_
       refine At.rinb ?_
       refine At.rthen ?_
       refine At.rthen ?_
       refine At.rinb ?_
       refine At.rthen ?_
       cases H
       exact At.ret env.ty rfl rfl (fun q hq => by cases hq) (.refl _) hval
     · have H := of_false H hb5
       refine W.skip ?_
       refine At.thenC ?_
       refine W.rg env [0, 13, 14, 15, 33, 34, 35] [] ?_
       refine W.block ?_
       refine At.keep (ts := [0, 13, 14, 15, 33, 34, 35]) (ids := []) rfl rfl ?_
       refine W.len (t := 33) rfl (fun (hn6 : (p0.getD i2 default).length ≤ maxLen) => ?_)
       refine W.rangeGo H (fun i6 (s6 : Unit) => [(0, roL 1 enc_ListRange p0), (13, roL 1 enc_ListRange p0), (14, .int .i64 (((p0.length : Nat) : Int))), (15, .int .i64 ((i2 : Int))), (33, roL 2 enc_Range (p0.getD i2 default)), (34, .int .i64 ((((p0.getD i2 default).length : Nat) : Int))), (35, .int .i64 ((i6 : Int)))]) (fun i6 (s6 : Unit) => []) (.cons .q (.cons .q (.cons .qi (.cons .qi (.cons .q (.cons .qi (.cons .qi .nil))))))) .nil (fun k6 i6 s6 hle6 H1 H2 K0 hK6 => ?_)
       refine W.rg env [0, 13, 14, 15, 33, 34, 35, 36] [] ?_
       refine W.seq ?_
       refine W.cond rfl (fun hb7 => ?_) (fun hb7 => ?_)
       · have hi6 : i6 < (p0.getD i2 default).length := by have := of_decide_eq_true hb7; omega
         have H := H1 hi6
         refine W.skip ?_
         refine At.thenC ?_
         refine W.seq ?_
         refine W.block ?_
         refine W.sr env [] [] [0, 6, 13, 14, 15, 33, 34, 35] [6] rfl rfl rfl (.cons (⟨by omega, by omega⟩ : 0 ≤ (i6 : Int) ∧ (i6 : Int) < (((p0.getD i2 default).length : Nat) : Int)) .nil) .nil ?_
         refine W.sr env [] [⟨.bool ((gasolierref01_IsRange ((p0.getD i2 default).getD i6 default) 0 600)), [], 0, []⟩] [0, 13, 14, 15, 33, 34, 35, 41] [] rfl rfl rfl .nil (.free (c_gasolierref01_IsRange ((p0.getD i2 default).getD i6 default) 0 600) .nil) ?_
         refine W.cond rfl (fun hb8 => ?_) (fun hb8 => ?_)
         · have H := of_true H hb8
           refine W.rg env [2] [] ?_
           refine W.ret ?_
           refine At.rinb ?_
           refine At.rthen ?_
           refine At.rthen ?_
           refine At.rinb ?_
           refine At.rinb ?_
           refine At.rthen ?_
           refine At.rthen ?_
           refine At.rinb ?_
           refine At.rthen ?_
           cases H
           exact At.ret env.ty rfl rfl (fun q hq => by cases hq) (.refl _) hval
         · have H := of_false H hb8
           refine W.skip ?_
           refine At.inb ?_
           refine At.thenC ?_
           refine W.region env [] [] rfl rfl rfl (.cons (by unfold inI; have := hn6; (try unfold maxLen at this); omega) .nil) .nil (At.keep (ts := [0, 13, 14, 15, 33, 34, 35]) (ids := []) rfl rfl ?_)
           refine At.thenK (At.keep (ts := [0, 13, 14, 15, 33, 34, 35]) (ids := []) rfl rfl ?_)
           exact At.conv (.cons .q (.cons .q (.cons .qi (.cons .qi (.cons .q (.cons .qi (.cons .qi .nil))))))) .nil (hK6 hi6 () H)
       · have H := H2 (by have := of_decide_eq_false hb7; omega)
         refine W.exit ?_
         refine At.xthen ?_
         refine At.xthen ?_
         refine At.xhere ?_
         refine At.inb ?_
         refine At.thenC ?_
         refine W.region env [] [] rfl rfl rfl (.cons (by unfold inI; have := hn2; (try unfold maxLen at this); omega) .nil) .nil (At.keep (ts := [0, 13, 14, 15]) (ids := []) rfl rfl ?_)
         refine At.thenK (At.keep (ts := [0, 13, 14, 15]) (ids := []) rfl rfl ?_)
         exact At.conv (.cons .q (.cons .q (.cons .qi (.cons .qi .nil)))) .nil (hK2 hi2 () H)
   · have H := H2 (by have := of_decide_eq_false hb3; omega)
     refine W.exit ?_
     refine At.xthen ?_
     refine At.xthen ?_
     refine At.xhere ?_
     refine At.thenC ?_
     refine W.seq ?_
     refine W.rg env [0, 45, 46] [] ?_
     refine W.block ?_
     refine At.keep (ts := [0, 45, 46]) (ids := []) rfl rfl ?_
     refine W.len (t := 0) rfl (fun (hn9 : p0.length ≤ maxLen) => ?_)
     refine W.rangeGo H (fun i9 (s9 : Unit) => [(0, roL 1 enc_ListRange p0), (45, .int .i64 (((p0.length : Nat) : Int))), (46, .int .i64 ((i9 : Int)))]) (fun i9 (s9 : Unit) => []) (.cons .q (.cons .qi (.cons .qi .nil))) .nil (fun k9 i9 s9 hle9 H1 H2 K0 hK9 => ?_)
     refine W.rg env [0, 45, 46, 47] [] ?_
     refine W.seq ?_
     refine W.cond rfl (fun hb10 => ?_) (fun hb10 => ?_)
     · have hi9 : i9 < p0.length := by have := of_decide_eq_true hb10; omega
       have H := H1 hi9
       refine W.skip ?_
       refine At.thenC ?_
       refine W.seq ?_
       refine W.block ?_
       refine W.rg env [0, 7, 45, 46] [] ?_
       refine W.rg env [0, 7, 45, 46, 50, 51] [] ?_
       refine W.block ?_
       refine At.keep (ts := [0, 7, 45, 46, 50, 51]) (ids := []) rfl rfl ?_
       refine W.len (t := 0) rfl (fun (hn11 : p0.length ≤ maxLen) => ?_)
       refine W.rangeGo H (fun i11 (s11 : Unit) => [(0, roL 1 enc_ListRange p0), (7, .int .i64 ((i9 : Int))), (45, .int .i64 (((p0.length : Nat) : Int))), (46, .int .i64 ((i9 : Int))), (50, .int .i64 (((p0.length : Nat) : Int))), (51, .int .i64 ((i11 : Int)))]) (fun i11 (s11 : Unit) => []) (.cons .q (.cons .qi (.cons .qi (.cons .qi (.cons .qi (.cons .qi .nil)))))) .nil (fun k11 i11 s11 hle11 H1 H2 K0 hK11 => ?_)
       refine W.rg env [0, 7, 45, 46, 50, 51, 52] [] ?_
       refine W.seq ?_
       refine W.cond rfl (fun hb12 => ?_) (fun hb12 => ?_)
       · have hi11 : i11 < p0.length := by have := of_decide_eq_true hb12; omega
         have H := H1 hi11
         refine W.skip ?_
         refine At.thenC ?_
         refine W.seq ?_
         refine W.block ?_
         refine W.rg env [0, 7, 8, 45, 46, 50, 51] [] ?_
         refine W.rg env [0, 7, 8, 45, 46, 50, 51, 55, 56] [] ?_
         refine W.block ?_
         refine At.keep (ts := [0, 7, 8, 45, 46, 50, 51, 55, 56]) (ids := []) rfl rfl ?_
         refine W.len (t := 0) rfl (fun (hn13 : p0.length ≤ maxLen) => ?_)
         refine W.rangeGo H (fun i13 (s13 : Unit) => [(0, roL 1 enc_ListRange p0), (7, .int .i64 ((i9 : Int))), (8, .int .i64 ((i11 : Int))), (45, .int .i64 (((p0.length : Nat) : Int))), (46, .int .i64 ((i9 : Int))), (50, .int .i64 (((p0.length : Nat) : Int))), (51, .int .i64 ((i11 : Int))), (55, .int .i64 (((p0.length : Nat) : Int))), (56, .int .i64 ((i13 : Int)))]) (fun i13 (s13 : Unit) => []) (.cons .q (.cons .qi (.cons .qi (.cons .qi (.cons .qi (.cons .qi (.cons .qi (.cons .qi (.cons .qi .nil))))))))) .nil (fun k13 i13 s13 hle13 H1 H2 K0 hK13 => ?_)
         refine W.rg env [0, 7, 8, 45, 46, 50, 51, 55, 56, 57] [] ?_
         refine W.seq ?_
         refine W.cond rfl (fun hb14 => ?_) (fun hb14 => ?_)
         · have hi13 : i13 < p0.length := by have := of_decide_eq_true hb14; omega
           have H := H1 hi13
           refine W.skip ?_
           refine At.thenC ?_
           refine W.seq ?_
           refine W.block ?_
           refine W.rg env [0, 7, 8, 9, 45, 46, 50, 51, 55, 56] [] ?_
           obtain ⟨hc15, H⟩ := of_must H
           obtain ⟨hc16, H⟩ := of_must H
           obtain ⟨hc17, H⟩ := of_must H
           obtain ⟨hc18, H⟩ := of_must H
           obtain ⟨hc19, H⟩ := of_must H
           obtain ⟨hc20, H⟩ := of_must H
           obtain ⟨hc21, H⟩ := of_must H
           obtain ⟨hc22, H⟩ := of_must H
           refine W.sr env [] [] [0, 7, 8, 45, 46, 50, 51, 55, 56, 112] [] rfl rfl (by first | rfl | kernel_rfl) (.cons (⟨by omega, by omega⟩ : 0 ≤ (i9 : Int) ∧ (i9 : Int) < ((p0.length : Nat) : Int)) (.cons hc15 (.cons (⟨by omega, by omega⟩ : 0 ≤ (i9 : Int) ∧ (i9 : Int) < ((p0.length : Nat) : Int)) (.cons hc16 (.cons (⟨by omega, by omega⟩ : 0 ≤ (i11 : Int) ∧ (i11 : Int) < ((p0.length : Nat) : Int)) (.cons hc17 (.cons hc18 (.cons (fun _ => (⟨by omega, by omega⟩ : 0 ≤ (i9 : Int) ∧ (i9 : Int) < ((p0.length : Nat) : Int))) (.cons (fun h => h) (.cons (fun h => h) (.cons (fun h => h) (.cons hc19 (.cons (fun h => h) (.cons (fun h => h) (.cons (fun h => h) (.cons (fun h => h) (.cons (fun _ => (⟨by omega, by omega⟩ : 0 ≤ (i9 : Int) ∧ (i9 : Int) < ((p0.length : Nat) : Int))) (.cons (fun h => h) (.cons (fun h => h) (.cons (fun h => h) (.cons hc20 (.cons (fun h => h) (.cons (fun h => h) (.cons (fun h => h) (.cons (fun h => h) (.cons (fun _ => (⟨by omega, by omega⟩ : 0 ≤ (i11 : Int) ∧ (i11 : Int) < ((p0.length : Nat) : Int))) (.cons (fun h => h) (.cons (fun h => h) (.cons (fun h => h) (.cons hc21 (.cons (fun h => h) (.cons (fun h => h) (.cons (fun h => h) (.cons (fun h => h) (.cons hc22 (.cons (fun h => h) (.cons (fun h => h) (.cons (fun h => h) (.cons (fun h => h) (.cons (fun h => by rw [h]; rfl) .nil)))))))))))))))))))))))))))))))))))))))) .nil ?_
           refine W.cond rfl (fun hb23 => ?_) (fun hb23 => ?_)
           · have H := of_true H hb23
             refine W.rg env [2] [] ?_
             refine W.ret ?_
             refine At.rinb ?_
             refine At.rthen ?_
             refine At.rthen ?_
             refine At.rinb ?_
             refine At.rinb ?_
             refine At.rthen ?_
             refine At.rthen ?_
             refine At.rinb ?_
             refine At.rinb ?_
             refine At.rthen ?_
             refine At.rthen ?_
             refine At.rinb ?_
             refine At.rthen ?_
             cases H
             exact At.ret env.ty rfl rfl (fun q hq => by cases hq) (.refl _) hval
           · have H := of_false H hb23
             refine W.skip ?_
             refine At.inb ?_
             refine At.thenC ?_
             refine W.region env [] [] rfl rfl rfl (.cons (by unfold inI; have := hn13; (try unfold maxLen at this); omega) .nil) .nil (At.keep (ts := [0, 7, 8, 45, 46, 50, 51, 55, 56]) (ids := []) rfl rfl ?_)
             refine At.thenK (At.keep (ts := [0, 7, 8, 45, 46, 50, 51, 55, 56]) (ids := []) rfl rfl ?_)
             exact At.conv (.cons .q (.cons .qi (.cons .qi (.cons .qi (.cons .qi (.cons .qi (.cons .qi (.cons .qi (.cons .qi .nil))))))))) .nil (hK13 hi13 () H)
         · have H := H2 (by have := of_decide_eq_false hb14; omega)
           refine W.exit ?_
           refine At.xthen ?_
           refine At.xthen ?_
           refine At.xhere ?_
           refine At.inb ?_
           refine At.thenC ?_
           refine W.region env [] [] rfl rfl rfl (.cons (by unfold inI; have := hn11; (try unfold maxLen at this); omega) .nil) .nil (At.keep (ts := [0, 7, 45, 46, 50, 51]) (ids := []) rfl rfl ?_)
           refine At.thenK (At.keep (ts := [0, 7, 45, 46, 50, 51]) (ids := []) rfl rfl ?_)
           exact At.conv (.cons .q (.cons .qi (.cons .qi (.cons .qi (.cons .qi (.cons .qi .nil)))))) .nil (hK11 hi11 () H)
       · have H := H2 (by have := of_decide_eq_false hb12; omega)
         refine W.exit ?_
         refine At.xthen ?_
         refine At.xthen ?_
         refine At.xhere ?_
         refine At.inb ?_
         refine At.thenC ?_
         refine W.region env [] [] rfl rfl rfl (.cons (by unfold inI; have := hn9; (try unfold maxLen at this); omega) .nil) .nil (At.keep (ts := [0, 45, 46]) (ids := []) rfl rfl ?_)
         refine At.thenK (At.keep (ts := [0, 45, 46]) (ids := []) rfl rfl ?_)
         exact At.conv (.cons .q (.cons .qi (.cons .qi .nil))) .nil (hK9 hi9 () H)
     · have H := H2 (by have := of_decide_eq_false hb10; omega)
       refine W.exit ?_
       refine At.xthen ?_
       refine At.xthen ?_
       refine At.xhere ?_
       refine At.thenC ?_
       refine W.rg env [2] [] ?_
       refine W.ret ?_
       cases H
       exact At.ret env.ty rfl rfl (fun q hq => by cases hq) (.refl _) hval
theorem c_gasolierref01_Within (p0 : Int) (p1 : Int) (p2 : Int) : Ctr Try.prog 49 [.int .i64 (p0), .int .i64 (p1), .int .i64 (p2)] (.bool ((gasolierref01_Within p0 p1 p2))) := by
 obtain ⟨r, H⟩ : ∃ r, gasolierref01_Within p0 p1 p2 = r := ⟨_, rfl⟩
 rw [H]
 unfold gasolierref01_Within at H
 refine Ctr.of_body (N := 15) Try.func49 (by kernel_rfl) (c := _) rfl Try.ntmps49 rfl (fun w0 h0 hval => ?_)
 refine W.rg env [0, 1, 2] [] ?_
 refine W.sr env [] [] [6] [] rfl rfl rfl (.cons (fun h => h) (.cons (fun h => h) (.cons (fun h => h) .nil))) .nil ?_
 refine W.ret ?_
 cases H
 exact At.ret env.ty rfl rfl (fun q hq => by cases hq) (.refl _) hval
theorem c_gasolierref04_CheckTask (p0 : Task) : Ctr Try.prog 53 [.agg [.int .i64 (p0.Lamp), .int .i64 (p0.Place), .int .i64 (p0.At), .int .i64 (p0.Serve)]] (.int .i64 ((gasolierref04_CheckTask p0))) := by
 obtain ⟨r, H⟩ : ∃ r, gasolierref04_CheckTask p0 = r := ⟨_, rfl⟩
 rw [H]
 unfold gasolierref04_CheckTask at H
 refine Ctr.of_body (N := 25) Try.func53 (by kernel_rfl) (c := _) rfl Try.ntmps53 rfl (fun w0 h0 hval => ?_)
 refine W.rg env [1] [1] ?_
 refine W.seq ?_
 refine W.sr env [] [⟨.bool ((gasolierref01_Within p0.Lamp 1 999)), [], 0, []⟩, ⟨.bool ((gasolierref01_Within p0.Place 0 11)), [], 0, []⟩, ⟨.bool ((gasolierref01_Within p0.At 0 1439)), [], 0, []⟩, ⟨.bool ((gasolierref01_Within p0.Serve 1 120)), [], 0, []⟩] [24] [] rfl rfl rfl (.cons (fun h => h) (.cons (fun h => h) (.cons (fun h => h) (.cons (fun h => by rw [h]; rfl) (.cons (fun h => h) (.cons (fun h => h) (.cons (fun h => h) (.cons (fun h => by rw [h]; rfl) (.cons (fun h => h) (.cons (fun h => h) (.cons (fun h => h) (.cons (fun h => by rw [h]; rfl) .nil)))))))))))) (.free (c_gasolierref01_Within p0.Lamp 1 999) (.on (fun hW => c_gasolierref01_Within p0.Place 0 11) (.on (fun hW => c_gasolierref01_Within p0.At 0 1439) (.on (fun hW => c_gasolierref01_Within p0.Serve 1 120) .nil)))) ?_
 refine W.cond rfl (fun hb1 => ?_) (fun hb1 => ?_)
 · have H := of_true H hb1
   refine W.rg env [2] [] ?_
   refine W.ret ?_
   refine At.rthen ?_
   cases H
   exact At.ret env.ty rfl rfl (fun q hq => by cases hq) (.refl _) hval
 · have H := of_false H hb1
   refine W.skip ?_
   refine At.thenC ?_
   refine W.rg env [2] [] ?_
   refine W.ret ?_
   cases H
   exact At.ret env.ty rfl rfl (fun q hq => by cases hq) (.refl _) hval
theorem c_gasolierref04_CheckHand (p0 : Hand) : Ctr Try.prog 54 [.agg [.int .i64 (p0.Id), .int .i64 (p0.From), .int .i64 (p0.To)]] (.int .i64 ((gasolierref04_CheckHand p0))) := by
 obtain ⟨r, H⟩ : ∃ r, gasolierref04_CheckHand p0 = r := ⟨_, rfl⟩
 rw [H]
 unfold gasolierref04_CheckHand at H
 refine Ctr.of_body (N := 16) Try.func54 (by kernel_rfl) (c := _) rfl Try.ntmps54 rfl (fun w0 h0 hval => ?_)
 refine W.rg env [1] [1] ?_
 refine W.seq ?_
 refine W.sr env [] [⟨.bool ((gasolierref01_Within p0.Id 1 99)), [], 0, []⟩, ⟨.bool ((gasolierref01_IsRange (⟨p0.From, p0.To⟩ : Range) 0 1439)), [], 0, []⟩] [15] [] rfl rfl rfl (.cons (fun h => h) (.cons (fun h => h) (.cons (fun h => h) (.cons (fun h => h) (.cons (fun h => h) (.cons (fun h => h) (.cons (fun h => by rw [h]; rfl) .nil))))))) (.free (c_gasolierref01_Within p0.Id 1 99) (.on (fun hW => c_gasolierref01_IsRange (⟨p0.From, p0.To⟩ : Range) 0 1439) .nil)) ?_
 refine W.cond rfl (fun hb1 => ?_) (fun hb1 => ?_)
 · have H := of_true H hb1
   refine W.rg env [2] [] ?_
   refine W.ret ?_
   refine At.rthen ?_
   cases H
   exact At.ret env.ty rfl rfl (fun q hq => by cases hq) (.refl _) hval
 · have H := of_false H hb1
   refine W.skip ?_
   refine At.thenC ?_
   refine W.rg env [2] [] ?_
   refine W.ret ?_
   cases H
   exact At.ret env.ty rfl rfl (fun q hq => by cases hq) (.refl _) hval
theorem c_gasolierref04_Check (p0 : Crew) {r : Int} (H : gasolierref04_Check p0 = some r) : Ctr Try.prog 15 [.agg [roL 4 enc_Task p0.Tasks, roL 1 enc_ListRange p0.Travel, roL 3 enc_Hand p0.Hands]] (.int .i64 (r)) := by
 unfold gasolierref04_Check at H
 refine Ctr.of_body (N := 87) Try.func15 (by kernel_rfl) (c := _) rfl Try.ntmps15 rfl (fun w0 h0 hval => ?_)
 refine W.rg env [1] [1] ?_
 refine W.seq ?_
 refine W.seq ?_
 obtain ⟨y1, hy2, H⟩ := of_bindO H
 refine W.region env [] [⟨.bool (y1), [], 0, []⟩] rfl rfl rfl (.cons (fun h => h) (.cons (fun h => h) (.cons (fun h => h) (.cons (fun h => by rw [h]; rfl) (.cons (fun h => h) (.cons (fun h => h) (.cons (fun h => h) (.cons (fun h => by rw [h]; rfl) .nil)))))))) (.on (fun hW => c_gasolierref04_isTravel p0.Travel (of_true hy2 hW)) .nil) (At.keep (ts := [1, 22]) (ids := [1]) rfl rfl ?_)
 refine At.thenC ?_
 refine W.cond rfl (fun hb3 => ?_) (fun hb3 => ?_)
 · have H := of_true H hb3
   refine W.rg env [2] [] ?_
   refine W.ret ?_
   refine At.rthen ?_
   cases H
   exact At.ret env.ty rfl rfl (fun q hq => by cases hq) (.refl _) hval
 · have H := of_false H hb3
   refine W.skip ?_
   refine At.thenC ?_
   refine W.seq ?_
   refine W.rg env [1, 24, 25, 26] [1] ?_
   refine W.block ?_
   refine At.keep (ts := [1, 24, 25, 26]) (ids := [1]) rfl rfl ?_
   refine W.len (t := 24) rfl (fun (hn4 : p0.Tasks.length ≤ maxLen) => ?_)
   refine W.rangeGo H (fun i4 (s4 : Unit) => [(1, .lp 1 0), (24, roL 4 enc_Task p0.Tasks), (25, .int .i64 (((p0.Tasks.length : Nat) : Int))), (26, .int .i64 ((i4 : Int)))]) (fun i4 (s4 : Unit) => [(1, .cells [roL 4 enc_Task p0.Tasks, roL 1 enc_ListRange p0.Travel, roL 3 enc_Hand p0.Hands])]) (.cons .q (.cons .q (.cons .qi (.cons .qi .nil)))) (.cons .q .nil) (fun k4 i4 s4 hle4 H1 H2 K0 hK4 => ?_)
   refine W.rg env [1, 24, 25, 26, 27] [1] ?_
   refine W.seq ?_
   refine W.cond rfl (fun hb5 => ?_) (fun hb5 => ?_)
   · have hi4 : i4 < p0.Tasks.length := by have := of_decide_eq_true hb5; omega
     have H := H1 hi4
     refine W.skip ?_
     refine At.thenC ?_
     refine W.seq ?_
     refine W.block ?_
     refine W.sr env [] [] [1, 3, 4, 24, 25, 26] [1, 4] rfl rfl rfl (.cons (⟨by omega, by omega⟩ : 0 ≤ (i4 : Int) ∧ (i4 : Int) < ((p0.Tasks.length : Nat) : Int)) .nil) .nil ?_
     obtain ⟨hc6, H⟩ := of_must H
     obtain ⟨hc7, H⟩ := of_must H
     refine W.sr env [] [⟨.int .i64 ((gasolierref04_CheckTask (p0.Tasks.getD i4 default))), [], 0, []⟩] [1, 24, 25, 26, 57] [1] rfl rfl (by kernel_rfl) (.cons (fun h => h) (.cons (fun h => h) (.cons (fun h => h) (.cons (fun h => h) (.cons (fun h => h) (.cons (fun h => by rw [h]; rfl) (.cons (fun h => h) (.cons (fun h => h) (.cons (fun h => h) (.cons hc6 (.cons (fun h => h) (.cons hc7 (.cons (fun h => h) (.cons (fun h => h) (.cons (fun h => h) (.cons (fun h => h) (.cons (fun h => h) (.cons (fun h => h) (.cons (fun h => h) (.cons (fun h => h) (.cons (fun hW h => by revert hW h; first | (simp +contextual; done) | grind) (.cons (fun h => by rw [h]; rfl) .nil)))))))))))))))))))))) (.free (c_gasolierref04_CheckTask (p0.Tasks.getD i4 default)) .nil) ?_
     refine W.cond rfl (fun hb8 => ?_) (fun hb8 => ?_)
     · have H := of_true H hb8
       refine W.rg env [2] [] ?_
       refine W.ret ?_
       refine At.rinb ?_
       refine At.rthen ?_
       refine At.rthen ?_
       refine At.rinb ?_
       refine At.rthen ?_
       cases H
       exact At.ret env.ty rfl rfl (fun q hq => by cases hq) (.refl _) hval
     · have H := of_false H hb8
       refine W.skip ?_
       refine At.inb ?_
       refine At.thenC ?_
       refine W.region env [] [] rfl rfl rfl (.cons (by unfold inI; have := hn4; (try unfold maxLen at this); omega) .nil) .nil (At.keep (ts := [1, 24, 25, 26]) (ids := [1]) rfl rfl ?_)
       refine At.thenK (At.keep (ts := [1, 24, 25, 26]) (ids := [1]) rfl rfl ?_)
       exact At.conv (.cons .q (.cons .q (.cons .qi (.cons .qi .nil)))) (.cons .q .nil) (hK4 hi4 () H)
   · have H := H2 (by have := of_decide_eq_false hb5; omega)
     refine W.exit ?_
     refine At.xthen ?_
     refine At.xthen ?_
     refine At.xhere ?_
     refine At.thenC ?_
     refine W.seq ?_
     refine W.rg env [1, 60, 61, 62] [1] ?_
     refine W.block ?_
     refine At.keep (ts := [1, 60, 61, 62]) (ids := [1]) rfl rfl ?_
     refine W.len (t := 60) rfl (fun (hn9 : p0.Hands.length ≤ maxLen) => ?_)
     refine W.rangeGo H (fun i9 (s9 : Unit) => [(1, .lp 1 0), (60, roL 3 enc_Hand p0.Hands), (61, .int .i64 (((p0.Hands.length : Nat) : Int))), (62, .int .i64 ((i9 : Int)))]) (fun i9 (s9 : Unit) => [(1, .cells [roL 4 enc_Task p0.Tasks, roL 1 enc_ListRange p0.Travel, roL 3 enc_Hand p0.Hands])]) (.cons .q (.cons .q (.cons .qi (.cons .qi .nil)))) (.cons .q .nil) (fun k9 i9 s9 hle9 H1 H2 K0 hK9 => ?_)
     refine W.rg env [1, 60, 61, 62, 63] [1] ?_
     refine W.seq ?_
     refine W.cond rfl (fun hb10 => ?_) (fun hb10 => ?_)
     · have hi9 : i9 < p0.Hands.length := by have := of_decide_eq_true hb10; omega
       have H := H1 hi9
       refine W.skip ?_
       refine At.thenC ?_
       refine W.seq ?_
       refine W.block ?_
       refine W.sr env [] [] [1, 5, 6, 60, 61, 62] [1, 6] rfl rfl rfl (.cons (⟨by omega, by omega⟩ : 0 ≤ (i9 : Int) ∧ (i9 : Int) < ((p0.Hands.length : Nat) : Int)) .nil) .nil ?_
       obtain ⟨hc11, H⟩ := of_must H
       obtain ⟨hc12, H⟩ := of_must H
       refine W.sr env [] [⟨.int .i64 ((gasolierref04_CheckHand (p0.Hands.getD i9 default))), [], 0, []⟩] [1, 60, 61, 62, 85] [1] rfl rfl (by kernel_rfl) (.cons (fun h => h) (.cons (fun h => h) (.cons (fun h => h) (.cons hc11 (.cons (fun h => h) (.cons hc12 (.cons (fun h => h) (.cons (fun h => h) (.cons (fun h => h) (.cons (fun h => h) (.cons (fun h => h) (.cons (fun h => h) (.cons (fun h => h) (.cons (fun h => h) (.cons (fun hW h => by revert hW h; first | (simp +contextual; done) | grind) (.cons (fun h => by rw [h]; rfl) .nil)))))))))))))))) (.free (c_gasolierref04_CheckHand (p0.Hands.getD i9 default)) .nil) ?_
       refine W.cond rfl (fun hb13 => ?_) (fun hb13 => ?_)
       · have H := of_true H hb13
         refine W.rg env [2] [] ?_
         refine W.ret ?_
         refine At.rinb ?_
         refine At.rthen ?_
         refine At.rthen ?_
         refine At.rinb ?_
         refine At.rthen ?_
         cases H
         exact At.ret env.ty rfl rfl (fun q hq => by cases hq) (.refl _) hval
       · have H := of_false H hb13
         refine W.skip ?_
         refine At.inb ?_
         refine At.thenC ?_
         refine W.region env [] [] rfl rfl rfl (.cons (by unfold inI; have := hn9; (try unfold maxLen at this); omega) .nil) .nil (At.keep (ts := [1, 60, 61, 62]) (ids := [1]) rfl rfl ?_)
         refine At.thenK (At.keep (ts := [1, 60, 61, 62]) (ids := [1]) rfl rfl ?_)
         exact At.conv (.cons .q (.cons .q (.cons .qi (.cons .qi .nil)))) (.cons .q .nil) (hK9 hi9 () H)
     · have H := H2 (by have := of_decide_eq_false hb10; omega)
       refine W.exit ?_
       refine At.xthen ?_
       refine At.xthen ?_
       refine At.xhere ?_
       refine At.thenC ?_
       refine W.rg env [2] [] ?_
       refine W.ret ?_
       cases H
       exact At.ret env.ty rfl rfl (fun q hq => by cases hq) (.refl _) hval
theorem c_gasolierref04_follows (p0 : Crew) (p1 : Int) (p2 : Int) {r : Int} (H : gasolierref04_follows p0 p1 p2 = some r) : Ctr Try.prog 64 [.agg [roL 4 enc_Task p0.Tasks, roL 1 enc_ListRange p0.Travel, roL 3 enc_Hand p0.Hands], .int .i64 (p1), .int .i64 (p2)] (.int .i64 (r)) := by
 unfold gasolierref04_follows at H
 refine Ctr.of_body (N := 52) Try.func64 (by kernel_rfl) (c := _) rfl Try.ntmps64 rfl (fun w0 h0 hval => ?_)
 refine W.rg env [1, 2, 3] [3] ?_
 obtain ⟨hc1, H⟩ := of_must H
 refine W.sr env [] [] [2, 3, 7] [3, 7] rfl rfl rfl (.cons hc1 .nil) .nil ?_
 obtain ⟨hc2, H⟩ := of_must H
 refine W.sr env [] [] [3, 7, 8] [3, 7, 8] rfl rfl rfl (.cons hc2 .nil) .nil ?_
 obtain ⟨hc3, H⟩ := of_must H
 obtain ⟨hc4, H⟩ := of_must H
 refine W.sr env [] [] [7, 8, 9] [7, 8, 9] rfl rfl (by first | rfl | kernel_rfl) (.cons hc3 (.cons hc4 .nil)) .nil ?_
 refine W.seq ?_
 obtain ⟨hc5, H⟩ := of_must H
 obtain ⟨hc6, H⟩ := of_must H
 refine W.sr env [] [] [7, 8, 9, 40] [7, 8, 9] rfl rfl rfl (.cons hc5 (.cons hc6 .nil)) .nil ?_
 refine W.cond rfl (fun hb7 => ?_) (fun hb7 => ?_)
 · have H := of_true H hb7
   refine W.rg env [6] [] ?_
   refine W.ret ?_
   refine At.rthen ?_
   cases H
   exact At.ret env.ty rfl rfl (fun q hq => by cases hq) (.refl _) hval
 · have H := of_false H hb7
   refine W.skip ?_
   refine At.thenC ?_
   refine W.seq ?_
   obtain ⟨hc8, H⟩ := of_must H
   obtain ⟨hc9, H⟩ := of_must H
   refine W.sr env [] [] [51] [] rfl rfl rfl (.cons hc8 (.cons hc9 .nil)) .nil ?_
   refine W.cond rfl (fun hb10 => ?_) (fun hb10 => ?_)
   · have H := of_true H hb10
     refine W.rg env [6] [] ?_
     refine W.ret ?_
     refine At.rthen ?_
     cases H
     exact At.ret env.ty rfl rfl (fun q hq => by cases hq) (.refl _) hval
   · have H := of_false H hb10
     refine W.skip ?_
     refine At.thenC ?_
     refine W.rg env [6] [] ?_
     refine W.ret ?_
     cases H
     exact At.ret env.ty rfl rfl (fun q hq => by cases hq) (.refl _) hval
theorem c_gasolierref04_Follows (p0 : Crew) (p1 : Int) (p2 : Int) {r : (Int × Int)} (H : gasolierref04_Follows p0 p1 p2 = some r) : Ctr Try.prog 21 [.agg [roL 4 enc_Task p0.Tasks, roL 1 enc_ListRange p0.Travel, roL 3 enc_Hand p0.Hands], .int .i64 (p1), .int .i64 (p2)] (.tup [.int .i64 (r.1), .int .i64 (r.2)]) := by
 unfold gasolierref04_Follows at H
 refine Ctr.of_body (N := 34) Try.func21 (by kernel_rfl) (c := _) rfl Try.ntmps21 rfl (fun w0 h0 hval => ?_)
 refine W.rg env [1, 2, 3] [3] ?_
 refine W.seq ?_
 refine W.seq ?_
 obtain ⟨y1, hy2, H⟩ := of_bindO H
 refine W.region env [] [⟨.int .i64 (y1), [], 0, []⟩] rfl rfl rfl .nil (.free (c_gasolierref04_Check p0 hy2) .nil) (At.keep (ts := [1, 2, 3, 8]) (ids := [3]) rfl rfl ?_)
 refine At.thenC ?_
 refine W.rg env [1, 2, 3, 8, 12] [3] ?_
 refine W.cond rfl (fun hb3 => ?_) (fun hb3 => ?_)
 · have H := of_true H hb3
   refine W.rg env [6, 7] [] ?_
   refine W.ret ?_
   refine At.rthen ?_
   cases H
   exact At.ret env.ty rfl rfl (fun q hq => by cases hq) (.refl _) hval
 · have H := of_false H hb3
   refine W.skip ?_
   refine At.thenC ?_
   refine W.seq ?_
   obtain ⟨hc4, H⟩ := of_must H
   obtain ⟨hc5, H⟩ := of_must H
   refine W.sr env [] [⟨.bool ((gasolierref01_Within p1 0 (((p0.Tasks.length : Nat) : Int) - 1))), [], 0, []⟩, ⟨.bool ((gasolierref01_Within p2 0 (((p0.Tasks.length : Nat) : Int) - 1))), [], 0, []⟩] [1, 2, 3, 29] [3] rfl rfl rfl (.cons hc4 (.cons (fun h => h) (.cons (fun h => h) (.cons hc5 (.cons (fun h => h) (.cons (fun h => h) (.cons (fun h => h) (.cons (fun h => h) (.cons (fun h => by rw [h]; rfl) .nil))))))))) (.free (c_gasolierref01_Within p1 0 (((p0.Tasks.length : Nat) : Int) - 1)) (.on (fun hW => c_gasolierref01_Within p2 0 (((p0.Tasks.length : Nat) : Int) - 1)) .nil)) ?_
   refine W.cond rfl (fun hb6 => ?_) (fun hb6 => ?_)
   · have H := of_true H hb6
     refine W.rg env [6, 7] [] ?_
     refine W.ret ?_
     refine At.rthen ?_
     cases H
     exact At.ret env.ty rfl rfl (fun q hq => by cases hq) (.refl _) hval
   · have H := of_false H hb6
     refine W.skip ?_
     refine At.thenC ?_
     refine W.seq ?_
     obtain ⟨y7, hy8, H⟩ := of_bindO H
     refine W.region env [] [⟨.int .i64 (y7), [], 0, []⟩] rfl rfl rfl .nil (.free (c_gasolierref04_follows p0 p1 p2 hy8) .nil) (At.keep (ts := [6, 7]) (ids := []) rfl rfl ?_)
     refine At.thenC ?_
     refine W.ret ?_
     cases H
     exact At.ret env.ty rfl rfl (fun q hq => by cases hq) (.refl _) hval
theorem c_crew_newPlan (p0 : Crew) (p1 : Range → Option Int) (p1_g : Nat) (p1_a p1_b : List AV) (p1_h : ∀ x0 r, p1 x0 = some r → Ctr Try.prog p1_g (p1_a ++ ([.agg [.int .i64 (x0.Lo), .int .i64 (x0.Hi)]] ++ p1_b)) (.int .i64 (r))) {r : (Option crew_plan)} (H : crew_newPlan p0 p1 = some r) : Ctr Try.prog 58 [.agg [roL 4 enc_Task p0.Tasks, roL 1 enc_ListRange p0.Travel, roL 3 enc_Hand p0.Hands], .clo (.func p1_g) p1_a p1_b] (.po r.isSome [roL 4 enc_Task ((r.getD default).Crew.Tasks), roL 1 enc_ListRange ((r.getD default).Crew.Travel), roL 3 enc_Hand ((r.getD default).Crew.Hands), roL 1 enc_Int ((r.getD default).next)]) := by
 unfold crew_newPlan at H
 refine Ctr.of_body (N := 52) Try.func58 (by kernel_rfl) (c := _) rfl Try.ntmps58 rfl (fun w0 h0 hval => ?_)
 refine W.rg env [1, 2] [2] ?_
 refine W.seq ?_
 obtain ⟨hc1, H⟩ := of_must H
 refine W.region env [] [] rfl rfl (by first | rfl | kernel_rfl) (.cons hc1 .nil) .nil (At.keep (ts := [1, 2, 5]) (ids := [2, 12, 14]) rfl rfl ?_)
 refine At.convM (.cons (.refl _) (.cons (y := bufL 3 1 enc_Int (List.replicate (((p0.Tasks.length : Nat) : Int)).toNat (0 : Int))) (BSim.seg (Seg.made (f := enc_Int) 0 rfl)) (.cons (.refl _) .nil))) ?_
 refine At.thenC ?_
 refine W.seq ?_
 refine W.rg env [1, 2, 5, 17, 18] [2, 12, 14] ?_
 refine W.block ?_
 refine At.keep (ts := [1, 2, 5, 17, 18]) (ids := [2, 12, 14]) rfl rfl ?_
 obtain ⟨hn2, H⟩ := of_must H
 refine W.rangeGo H (fun i2 (s2 : (List Int)) => [(1, .clo (.func p1_g) p1_a p1_b), (2, .lp 2 0), (5, .lp 14 0), (17, .int .i64 (((p0.Tasks.length : Nat) : Int))), (18, .int .i64 ((i2 : Int)))]) (fun i2 (s2 : (List Int)) => [(2, .cells [roL 4 enc_Task p0.Tasks, roL 1 enc_ListRange p0.Travel, roL 3 enc_Hand p0.Hands]), (12, bufL 3 1 enc_Int s2), (14, .cells [roL 4 enc_Task p0.Tasks, roL 1 enc_ListRange p0.Travel, roL 3 enc_Hand p0.Hands, .buf 12 (s2).length])]) (.cons .q (.cons .q (.cons .q (.cons .qi (.cons .qi .nil))))) (.cons .q (.cons .q (.cons (BSim.cells (.cons .q (.cons .q (.cons .q (.cons .qc .nil))))) .nil))) (fun k2 i2 s2 hle2 H1 H2 K0 hK2 => ?_)
 refine W.rg env [1, 2, 5, 17, 18, 19] [2, 12, 14] ?_
 refine W.seq ?_
 refine W.cond rfl (fun hb3 => ?_) (fun hb3 => ?_)
 · have hi2 : i2 < p0.Tasks.length := by have := of_decide_eq_true hb3; omega
   have H := H1 hi2
   refine W.skip ?_
   refine At.thenC ?_
   refine W.seq ?_
   refine W.block ?_
   refine W.rg env [1, 2, 5, 6, 17, 18] [2, 12, 14] ?_
   refine W.rg env [1, 2, 5, 6, 17, 18, 23, 24] [2, 12, 14] ?_
   refine W.block ?_
   refine At.keep (ts := [1, 2, 5, 6, 17, 18, 23, 24]) (ids := [2, 12, 14]) rfl rfl ?_
   obtain ⟨hn4, H⟩ := of_must H
   refine W.rangeGo H (fun i4 (s4 : (List Int)) => [(1, .clo (.func p1_g) p1_a p1_b), (2, .lp 2 0), (5, .lp 14 0), (6, .int .i64 ((i2 : Int))), (17, .int .i64 (((p0.Tasks.length : Nat) : Int))), (18, .int .i64 ((i2 : Int))), (23, .int .i64 (((p0.Tasks.length : Nat) : Int))), (24, .int .i64 ((i4 : Int)))]) (fun i4 (s4 : (List Int)) => [(2, .cells [roL 4 enc_Task p0.Tasks, roL 1 enc_ListRange p0.Travel, roL 3 enc_Hand p0.Hands]), (12, bufL 3 1 enc_Int s4), (14, .cells [roL 4 enc_Task p0.Tasks, roL 1 enc_ListRange p0.Travel, roL 3 enc_Hand p0.Hands, .buf 12 (s4).length])]) (.cons .q (.cons .q (.cons .q (.cons .qi (.cons .qi (.cons .qi (.cons .qi (.cons .qi .nil)))))))) (.cons .q (.cons .q (.cons (BSim.cells (.cons .q (.cons .q (.cons .q (.cons .qc .nil))))) .nil))) (fun k4 i4 s4 hle4 H1 H2 K0 hK4 => ?_)
   refine W.rg env [1, 2, 5, 6, 17, 18, 23, 24, 25] [2, 12, 14] ?_
   refine W.seq ?_
   refine W.cond rfl (fun hb5 => ?_) (fun hb5 => ?_)
   · have hi4 : i4 < p0.Tasks.length := by have := of_decide_eq_true hb5; omega
     have H := H1 hi4
     refine W.skip ?_
     refine At.thenC ?_
     refine W.seq ?_
     refine W.block ?_
     refine W.rg env [1, 2, 5, 6, 7, 17, 18, 23, 24] [2, 12, 14] ?_
     refine W.seq ?_
     obtain ⟨y6, hy7, H⟩ := of_bindO H
     refine W.region env [] [⟨.int .i64 (y6), [], 0, []⟩] rfl rfl rfl (.cons (fun h => h) (.cons (fun h => h) (.cons (fun h => h) (.cons (fun h => h) (.cons (fun h => h) (.cons (fun h => h) .nil)))))) (.on (fun hW => c_crew_spare p0 (i2 : Int) (i4 : Int) p1 p1_g p1_a p1_b p1_h (of_true hy7 hW)) .nil) (At.keep (ts := [1, 2, 5, 6, 7, 17, 18, 23, 24, 37]) (ids := [2, 12, 14]) rfl rfl ?_)
     refine At.thenC ?_
     refine W.cond rfl (fun hb8 => ?_) (fun hb8 => ?_)
     · have H := of_true H hb8
       obtain ⟨hc9, H⟩ := of_must H
       obtain ⟨hc10, H⟩ := of_must H
       obtain ⟨hc11, H⟩ := of_must H
       obtain ⟨hc12, H⟩ := of_must H
       refine W.region env [] [] rfl rfl (by first | rfl | kernel_rfl) (.cons (⟨by first | rfl | (simp; done) | omega | (simp; omega), hc9⟩) (.cons (⟨by first | rfl | (simp; done) | omega | (simp; omega), (by have := hc9; first | omega | (simp only [List.length_set]; omega) | (simp only [Int.toNat_natCast] at *; omega) | (simp at this ⊢; omega))⟩) (.cons hc10 (.cons hc11 (.cons (⟨by first | rfl | (simp; done) | omega | (simp; omega), hc12⟩) (.cons (⟨by first | rfl | (simp; done) | omega | (simp; omega), (by have := hc12; first | omega | (simp only [List.length_set]; omega) | (simp only [Int.toNat_natCast] at *; omega) | (simp at this ⊢; omega))⟩) .nil)))))) .nil (At.keep (ts := [1, 2, 5, 6, 17, 18, 23, 24]) (ids := [2, 12, 14]) rfl rfl ?_)
       refine At.convM (.cons (.refl _) (.cons (y := bufL 3 1 enc_Int (s4.set i2 ((((s4.getD i2 default) : Int).toNat ||| (((1 : Int) * 2 ^ ((i4 : Int) : Int).toNat) : Int).toNat : Nat) : Int))) (BSim.seg (Seg.set (Seg.refl enc_Int _) ((((s4.getD i2 default) : Int).toNat ||| (((1 : Int) * 2 ^ ((i4 : Int) : Int).toNat) : Int).toNat : Nat) : Int) rfl)) (.cons (.refl _) .nil))) ?_
       refine At.inb ?_
       refine At.thenC ?_
       refine W.region env [] [] rfl rfl rfl (.cons (by unfold inI; have := hn4; (try unfold maxLen at this); omega) .nil) .nil (At.keep (ts := [1, 2, 5, 6, 17, 18, 23, 24]) (ids := [2, 12, 14]) rfl rfl ?_)
       refine At.thenK (At.keep (ts := [1, 2, 5, 6, 17, 18, 23, 24]) (ids := [2, 12, 14]) rfl rfl ?_)
       exact At.conv (.cons .q (.cons .q (.cons .q (.cons .qi (.cons .qi (.cons .qi (.cons .qi (.cons .qi .nil)))))))) (.cons .q (.cons .q (.cons (BSim.cells (.cons .q (.cons .q (.cons .q (.cons .qc .nil))))) .nil))) (hK4 hi4 (s4.set i2 ((((s4.getD i2 default) : Int).toNat ||| (((1 : Int) * 2 ^ ((i4 : Int) : Int).toNat) : Int).toNat : Nat) : Int)) H)
     · have H := of_false H hb8
       refine W.skip ?_
       refine At.inb ?_
       refine At.thenC ?_
       refine W.region env [] [] rfl rfl rfl (.cons (by unfold inI; have := hn4; (try unfold maxLen at this); omega) .nil) .nil (At.keep (ts := [1, 2, 5, 6, 17, 18, 23, 24]) (ids := [2, 12, 14]) rfl rfl ?_)
       refine At.thenK (At.keep (ts := [1, 2, 5, 6, 17, 18, 23, 24]) (ids := [2, 12, 14]) rfl rfl ?_)
       exact At.conv (.cons .q (.cons .q (.cons .q (.cons .qi (.cons .qi (.cons .qi (.cons .qi (.cons .qi .nil)))))))) (.cons .q (.cons .q (.cons (BSim.cells (.cons .q (.cons .q (.cons .q (.cons .qc .nil))))) .nil))) (hK4 hi4 s4 H)
   · have H := H2 (by have := of_decide_eq_false hb5; omega)
     refine W.exit ?_
     refine At.xthen ?_
     refine At.xthen ?_
     refine At.xhere ?_
     refine At.inb ?_
     refine At.thenC ?_
     refine W.region env [] [] rfl rfl rfl (.cons (by unfold inI; have := hn2; (try unfold maxLen at this); omega) .nil) .nil (At.keep (ts := [1, 2, 5, 17, 18]) (ids := [2, 12, 14]) rfl rfl ?_)
     refine At.thenK (At.keep (ts := [1, 2, 5, 17, 18]) (ids := [2, 12, 14]) rfl rfl ?_)
     exact At.conv (.cons .q (.cons .q (.cons .q (.cons .qi (.cons .qi .nil))))) (.cons .q (.cons .q (.cons (BSim.cells (.cons .q (.cons .q (.cons .q (.cons .qc .nil))))) .nil))) (hK2 hi2 s4 H)
 · have H := H2 (by have := of_decide_eq_false hb3; omega)
   refine W.exit ?_
   refine At.xthen ?_
   refine At.xthen ?_
   refine At.xhere ?_
   refine At.thenC ?_
   refine W.rg env [4] [12, 14] ?_
   refine W.ret ?_
   cases H
   exact At.ret env.ty rfl rfl (fun q hq => by cases hq; exact (by first | rfl | (simp; done) | omega | (simp; omega))) (Sim.po_rp rfl (.cons (.refl _) (.cons (.refl _) (.cons (.refl _) (.cons (.refl _) .nil))))) hval
theorem c_crew_plan__followers (p0 : crew_plan) (p1 : Int) : Ctr Try.prog 69 [.rp [roL 4 enc_Task p0.Crew.Tasks, roL 1 enc_ListRange p0.Crew.Travel, roL 3 enc_Hand p0.Crew.Hands, roL 1 enc_Int p0.next], .int .i64 (p1)] (.clo (.func 98) [] [.rp [.rp [roL 4 enc_Task p0.Crew.Tasks, roL 1 enc_ListRange p0.Crew.Travel, roL 3 enc_Hand p0.Crew.Hands, roL 1 enc_Int p0.next]], .rp [.int .i64 (p1)]]) := by
 refine Ctr.of_body (N := 6) Try.func69 (by kernel_rfl) (c := _) rfl Try.ntmps69 rfl (fun w0 h0 hval => ?_)
 refine W.rg env [2, 3] [2, 3] ?_
 refine W.rg env [4] [2, 3] ?_
 refine W.ret ?_
 exact At.ret env.ty rfl rfl (fun q hq => by cases hq) (.refl _) hval
theorem c_crew_plan__followers_1 (c0 : crew_plan) (c1 : Int) {r : List (Int)} (H : crew_plan__followers_1 c0 c1 = some r) : Iter Try.prog 98 [.rp [.rp [roL 4 enc_Task c0.Crew.Tasks, roL 1 enc_ListRange c0.Crew.Travel, roL 3 enc_Hand c0.Crew.Hands, roL 1 enc_Int c0.next]], .rp [.int .i64 (c1)]] (r.map (fun (x : Int) => [.int .i64 (x)])) := by
 unfold crew_plan__followers_1 at H
 have hYl := Yl.start r
 skip
 refine Iter.of_body (N := 31) Try.func98 (by kernel_rfl) (c := _) rfl Try.ntmps98 rfl (fun w0 h0 lp J hJ hval hY => ?_)
 refine W.rg env [0, 1, 2, 9, 10] [] ?_
 refine W.block ?_
 refine At.keep (ts := [0, 1, 2, 9, 10]) (ids := []) rfl rfl ?_
 obtain ⟨hn1, H⟩ := of_must H
 refine W.rangeGoI H hYl (fun i1 (s1 : Unit) => [(0, .fn (.yield lp) [] []), (1, .rp [.rp [roL 4 enc_Task c0.Crew.Tasks, roL 1 enc_ListRange c0.Crew.Travel, roL 3 enc_Hand c0.Crew.Hands, roL 1 enc_Int c0.next]]), (2, .rp [.int .i64 (c1)]), (9, .int .i64 (((c0.next.length : Nat) : Int))), (10, .int .i64 ((i1 : Int)))]) (fun i1 (s1 : Unit) => []) (.cons .q (.cons .q (.cons .q (.cons .qi (.cons .qi .nil))))) .nil (fun k1 i1 s1 g r hle1 hYl H1 H2 K0 hK1 => ?_)
 refine W.rg env [0, 1, 2, 9, 10, 11] [] ?_
 refine W.seq ?_
 refine W.cond rfl (fun hb2 => ?_) (fun hb2 => ?_)
 · have hi1 : i1 < c0.next.length := by have := of_decide_eq_true hb2; omega
   have H := H1 hi1
   refine W.skip ?_
   refine At.thenC ?_
   refine W.seq ?_
   refine W.block ?_
   refine W.rg env [0, 1, 2, 4, 9, 10] [] ?_
   refine W.seq ?_
   obtain ⟨hc3, H⟩ := of_must H
   obtain ⟨hc4, H⟩ := of_must H
   obtain ⟨hc5, H⟩ := of_must H
   refine W.regionYd env hY [] 14 [] [] rfl rfl rfl rfl rfl rfl rfl rfl (fun b => rfl) rfl (fun b => by cases b <;> rfl) (.cons hc3 (.cons hc4 (.cons hc5 .nil))) .nil (.cons (fun h => h) (.cons (fun h => h) .nil)) (fun b => (.cons (fun h => h) (.cons (fun h => h) .nil))) (fun b => .nil) (fun hW => Yl.item (fun (x : Int) => [.int .i64 (x)]) H hYl hW) (fun b g1 hg1 hg2 => ?_)
   refine At.keep (ts := [0, 1, 2, 9, 10, 29]) (ids := []) rfl rfl ?_
   refine At.thenC ?_
   rcases Yl.split hg1 hg2 with ⟨hw1, hw2, rfl⟩ | ⟨hw1, hw2, hw3⟩
   · refine W.cond rfl (fun hb => ?_) (fun hb => ?_)
     · refine W.ret ?_
       refine At.rinb ?_
       refine At.rthen ?_
       refine At.rthen ?_
       refine At.rinb ?_
       exact At.iret rfl (.inl rfl) hval
     · exact absurd hb (by rw [hw1, hw2]; simp)
   · refine W.cond rfl (fun hb => ?_) (fun hb => ?_)
     · exact absurd hb (by intro hb; simp only [Bool.and_eq_true, Bool.not_eq_true'] at hb; have := hw1 (by first | exact hb.1 | (simp only [Bool.and_eq_true]; exact hb.1)); rw [this] at hb; simp at hb)
     · obtain ⟨r, H, hYl⟩ := Yl.next H hYl hw2 hw3
       refine W.skip ?_
       refine At.inb ?_
       refine At.thenC ?_
       refine W.region env [] [] rfl rfl rfl (.cons (by unfold inI; have := hn1; (try unfold maxLen at this); omega) .nil) .nil (At.keep (ts := [0, 1, 2, 9, 10]) (ids := []) rfl rfl ?_)
       refine At.thenK (At.keep (ts := [0, 1, 2, 9, 10]) (ids := []) rfl rfl ?_)
       exact At.conv (.cons .q (.cons .q (.cons .q (.cons .qi (.cons .qi .nil))))) .nil (hK1 hi1 () _ _ hYl H)
 · have H := H2 (by have := of_decide_eq_false hb2; omega)
   refine W.exit ?_
   refine At.xthen ?_
   refine At.xthen ?_
   refine At.xhere ?_
   refine At.iofNormal ?_
   exact At.iret rfl (.inr (Yl.fin (fun (x : Int) => [.int .i64 (x)]) H hYl)) hval
theorem cl_crew_plan__pair_1_l (fuel : Nat) : ∀ (n : Nat) (p0 : Int) (c0 : crew_plan) (c1 : Int) (c2 : (List Int)) (c4 : (List Int)) {r : (Bool × Int × (List Int) × (List Int))} (H : crew_plan__pair_1_l fuel n p0 c0 c1 c2 c4 = some r), CtrO Try.prog 96 [.int .i64 (p0), .lp 90000 0, .lp 90001 0, .lp 90002 0, .lp 90004 0, .lp 90005 0] [(90000, .cells [.rp [roL 4 enc_Task c0.Crew.Tasks, roL 1 enc_ListRange c0.Crew.Travel, roL 3 enc_Hand c0.Crew.Hands, roL 1 enc_Int c0.next]]), (90001, .cells [.int .i64 (c1)]), (90002, .cells [.buf 90003 (c2).length]), (90003, bufL 3 1 enc_Int c2), (90004, .cells [.fn (.func 96) [] [.lp 90000 0, .lp 90001 0, .lp 90002 0, .lp 90004 0, .lp 90005 0]]), (90005, .cells [.buf 90006 (c4).length]), (90006, bufL 3 1 enc_Int c4)] (.bool (r.1)) [(90000, .cells [.rp [roL 4 enc_Task c0.Crew.Tasks, roL 1 enc_ListRange c0.Crew.Travel, roL 3 enc_Hand c0.Crew.Hands, roL 1 enc_Int c0.next]]), (90001, .cells [.int .i64 (r.2.1)]), (90002, .cells [.buf 90003 (r.2.2.1).length]), (90003, bufL 3 1 enc_Int r.2.2.1), (90004, .cells [.fn (.func 96) [] [.lp 90000 0, .lp 90001 0, .lp 90002 0, .lp 90004 0, .lp 90005 0]]), (90005, .cells [.buf 90006 (r.2.2.2).length]), (90006, bufL 3 1 enc_Int r.2.2.2)] := by
 intro n; induction n with
 | zero => intro p0 c0 c1 c2 c4 r H; cases H
 | succ n ih =>
   intro p0 c0 c1 c2 c4 r H
   have H : crew_plan__pair_1_l_F fuel (crew_plan__pair_1_l fuel n) p0 c0 c1 c2 c4 = some r := H
   unfold crew_plan__pair_1_l_F at H
   refine CtrL.of_body (N := 43) Try.func96 (by kernel_rfl) (c := _) rfl Try.ntmps96 rfl rfl (fun w0 h0 ρb hval hdom hent => ?_)
   refine W.rg env [1, 2, 3, 4, 5, 6, 7] [6, 7, 90000, 90001, 90002, 90003, 90004, 90005, 90006] ?_
   refine W.seq ?_
   refine W.sr env [] [⟨.clo (.func 98) [] [.rp [.rp [roL 4 enc_Task c0.Crew.Tasks, roL 1 enc_ListRange c0.Crew.Travel, roL 3 enc_Hand c0.Crew.Hands, roL 1 enc_Int c0.next]], .rp [.int .i64 (p0)]], [], 0, []⟩] [2, 3, 4, 5, 6, 7, 11] [6, 7, 90000, 90001, 90002, 90003, 90004, 90005, 90006] rfl rfl rfl .nil (.free (c_crew_plan__followers c0 p0) .nil) ?_
   refine W.block ?_
   obtain ⟨it1, hit1, H⟩ := of_bindO H
   refine At.keep (ts := [2, 3, 4, 5, 6, 7, 11]) (ids := [6, 7, 90000, 90001, 90002, 90003, 90004, 90005, 90006]) rfl rfl ?_
   refine W.listGo H (fun (x : Int) => [.int .i64 (x)]) (c_crew_plan__followers_1 c0 p0 hit1) rfl (fun _ => ⟨rfl, rfl⟩) rfl rfl rfl (fun (s2 : (List Int) × (List Int) × Int) => [(6, .cells [.int .i64 (p0)]), (7, .cells [.bool (false)]), (90000, .cells [.rp [roL 4 enc_Task c0.Crew.Tasks, roL 1 enc_ListRange c0.Crew.Travel, roL 3 enc_Hand c0.Crew.Hands, roL 1 enc_Int c0.next]]), (90001, .cells [.int .i64 (s2.2.2)]), (90002, .cells [.buf 90003 (s2.1).length]), (90003, bufL 3 1 enc_Int s2.1), (90004, .cells [.fn (.func 96) [] [.lp 90000 0, .lp 90001 0, .lp 90002 0, .lp 90004 0, .lp 90005 0]]), (90005, .cells [.buf 90006 (s2.2.1).length]), (90006, bufL 3 1 enc_Int s2.2.1)]) (.cons .q (.cons .q (.cons .q (.cons .q (.cons (BSim.cells (.cons .qc .nil)) (.cons .q (.cons .q (.cons (BSim.cells (.cons .qc .nil)) (.cons .q .nil))))))))) (fun (x1 : Int) => [(2, .lp 90001 0), (3, .lp 90002 0), (4, .lp 90004 0), (5, .lp 90005 0), (6, .lp 6 0), (7, .lp 7 0), (8, .int .i64 (x1))]) (fun (x1 : Int) (s2 : (List Int) × (List Int) × Int) => [(6, .cells [.int .i64 (p0)]), (7, .cells [.bool (false)]), (90000, .cells [.rp [roL 4 enc_Task c0.Crew.Tasks, roL 1 enc_ListRange c0.Crew.Travel, roL 3 enc_Hand c0.Crew.Hands, roL 1 enc_Int c0.next]]), (90001, .cells [.int .i64 (s2.2.2)]), (90002, .cells [.buf 90003 (s2.1).length]), (90003, bufL 3 1 enc_Int s2.1), (90004, .cells [.fn (.func 96) [] [.lp 90000 0, .lp 90001 0, .lp 90002 0, .lp 90004 0, .lp 90005 0]]), (90005, .cells [.buf 90006 (s2.2.1).length]), (90006, bufL 3 1 enc_Int s2.2.1)]) (fun e (sx : Bool × Int × (List Int) × (List Int)) => e = Exit.ret ∧ some (sx.1, sx.2.1, sx.2.2.1, sx.2.2.2) = some r) (fun _ (sx : Bool × Int × (List Int) × (List Int)) => [(6, .cells [.int .i64 (p0)]), (7, .cells [.bool (sx.1)]), (90000, .cells [.rp [roL 4 enc_Task c0.Crew.Tasks, roL 1 enc_ListRange c0.Crew.Travel, roL 3 enc_Hand c0.Crew.Hands, roL 1 enc_Int c0.next]]), (90001, .cells [.int .i64 (sx.2.1)]), (90002, .cells [.buf 90003 (sx.2.2.1).length]), (90003, bufL 3 1 enc_Int sx.2.2.1), (90004, .cells [.fn (.func 96) [] [.lp 90000 0, .lp 90001 0, .lp 90002 0, .lp 90004 0, .lp 90005 0]]), (90005, .cells [.buf 90006 (sx.2.2.2).length]), (90006, bufL 3 1 enc_Int sx.2.2.2)]) (fun e s h => .inl h.1) hval (fun h1 vs gh st lp x1 s2 K hK => ?_) (fun k2 h1 vs gh st lp x1 s2 H Qr hQ2 hX2 => ?_) (fun s2 H => ?_) (fun e sx h => ?_)
   · refine W.region env [] [] rfl rfl rfl .nil .nil (At.keep (ts := [2, 3, 4, 5, 6, 7, 8]) (ids := [6, 7, 90000, 90001, 90002, 90003, 90004, 90005, 90006]) rfl rfl ?_)
     refine At.thenK (At.keep (ts := [2, 3, 4, 5, 6, 7, 8]) (ids := [6, 7, 90000, 90001, 90002, 90003, 90004, 90005, 90006]) rfl rfl ?_)
     exact hK
   · refine W.block ?_
     refine W.seq ?_
     obtain ⟨hc3, H⟩ := of_must H
     obtain ⟨hc4, H⟩ := of_must H
     refine W.sr env [] [] [2, 3, 4, 5, 6, 7, 8, 17] [6, 7, 90000, 90001, 90002, 90003, 90004, 90005, 90006] rfl rfl rfl (.cons hc3 (.cons hc4 .nil)) .nil ?_
     refine W.cond rfl (fun hb5 => ?_) (fun hb5 => ?_)
     · have H := of_true H hb5
       refine W.exit ?_
       refine At.xthen ?_
       refine At.xhere ?_
       refine At.keep (ts := []) (ids := [6, 7, 90000, 90001, 90002, 90003, 90004, 90005, 90006]) rfl rfl ?_
       exact At.conv .nil (.cons .q (.cons .q (.cons .q (.cons .q (.cons (BSim.cells (.cons .qc .nil)) (.cons .q (.cons .q (.cons (BSim.cells (.cons .qc .nil)) (.cons .q .nil))))))))) (hQ2 (s2.1, s2.2.1, s2.2.2) H)
     · have H := of_false H hb5
       refine W.skip ?_
       refine At.thenC ?_
       obtain ⟨hc6, H⟩ := of_must H
       obtain ⟨hc7, H⟩ := of_must H
       refine W.sr env [] [] [3, 4, 5, 6, 7, 8] [6, 7, 90000, 90001, 90002, 90003, 90004, 90005, 90006] rfl rfl (by first | rfl | kernel_rfl) (.cons hc6 (.cons hc7 .nil)) .nil ?_
       refine W.seq ?_
       obtain ⟨hc8, H⟩ := of_must H
       obtain ⟨hc9, H⟩ := of_must H
       obtain ⟨y10, hy11, H⟩ := of_bindO H
       refine W.region env [] [⟨.bool (y10.1), [(90000, .cells [.rp [roL 4 enc_Task c0.Crew.Tasks, roL 1 enc_ListRange c0.Crew.Travel, roL 3 enc_Hand c0.Crew.Hands, roL 1 enc_Int c0.next]]), (90001, .cells [.int .i64 (y10.2.1)]), (90002, .cells [.buf 90003 (y10.2.2.1).length]), (90003, bufL 3 1 enc_Int y10.2.2.1), (90004, .cells [.fn (.func 96) [] [.lp 90000 0, .lp 90001 0, .lp 90002 0, .lp 90004 0, .lp 90005 0]]), (90005, .cells [.buf 90006 (y10.2.2.2).length]), (90006, bufL 3 1 enc_Int y10.2.2.2)], 0, [90000, 90001, 90002, 90003, 90004, 90005, 90006]⟩] rfl rfl (by kernel_rfl) (.cons (⟨by first | rfl | (simp; done) | omega | (simp; omega), hc8⟩) (.cons (⟨by first | rfl | (simp; done) | omega | (simp; omega), (by have := hc8; first | omega | (simp only [List.length_set]; omega) | (simp only [Int.toNat_natCast] at *; omega) | (simp at this ⊢; omega))⟩) (.cons (fun hW => ⟨by first | rfl | (simp; done) | omega | (simp; omega), hc9 hW⟩) (.cons (fun h => h) (.cons (fun h => h) (.cons (fun hW => (⟨by first | rfl | (simp; done) | omega | (simp; omega), (by have := hc9 hW; first | omega | (simp only [List.length_set]; omega) | (simp only [Int.toNat_natCast] at *; omega) | (simp at this ⊢; omega))⟩)) (.cons (fun h => h) (.cons (fun hW => by obtain rfl := lend_off hy11 hW; first | exact .refl _ | exact .q) (.cons (fun hW => by obtain rfl := lend_off hy11 hW; first | exact .refl _ | exact .q) (.cons (fun hW => by obtain rfl := lend_off hy11 hW; first | exact .refl _ | exact .q) (.cons (fun hW => by obtain rfl := lend_off hy11 hW; first | exact .refl _ | exact .q) (.cons (fun hW => by obtain rfl := lend_off hy11 hW; first | exact .refl _ | exact .q) (.cons (fun hW => by obtain rfl := lend_off hy11 hW; first | exact .refl _ | exact .q) (.cons (fun hW => by obtain rfl := lend_off hy11 hW; first | exact .refl _ | exact .q) (.cons (fun h => h) (.cons (fun h => h) (.cons (fun h => by rw [h]; rfl) .nil))))))))))))))))) (.on (fun hW => (CtrO.sim (CtrO.ren (ih (s2.1.getD (x1).toNat default) c0 (((s2.2.2 : Int).toNat ||| (((1 : Int) * 2 ^ (x1 : Int).toNat) : Int).toNat : Nat) : Int) s2.1 s2.2.1 (of_true hy11 hW)) [(90000, 90000), (90001, 90001), (90002, 90002), (90003, 90003), (90004, 90004), (90005, 90005), (90006, 90006)]) (.cons (.refl _) (.cons (.refl _) (.cons (.refl _) (.cons (.refl _) (.cons (.refl _) (.cons (.refl _) .nil)))))) (.cons (.refl _) (.cons (.refl _) (.cons (BSim.cells (.cons .qc .nil)) (.cons (.refl _) (.cons (.refl _) (.cons (BSim.cells (.cons .qc .nil)) (.cons (.refl _) .nil))))))))) .nil) (At.keep (ts := [3, 5, 6, 7, 8, 34]) (ids := [6, 7, 90000, 90001, 90002, 90003, 90004, 90005, 90006]) rfl rfl ?_)
       refine At.thenC ?_
       refine W.cond rfl (fun hb12 => ?_) (fun hb12 => ?_)
       · have H := of_true H hb12
         refine W.seq ?_
         obtain ⟨hc13, H⟩ := of_must H
         obtain ⟨hc14, H⟩ := of_must H
         refine W.region env [] [] rfl rfl (by first | rfl | kernel_rfl) (.cons (⟨by first | rfl | (simp; done) | omega | (simp; omega), hc13⟩) (.cons (⟨by first | rfl | (simp; done) | omega | (simp; omega), (by have := hc13; first | omega | (simp only [List.length_set]; omega) | (simp only [Int.toNat_natCast] at *; omega) | (simp at this ⊢; omega))⟩) (.cons (⟨by first | rfl | (simp; done) | omega | (simp; omega), hc14⟩) (.cons (⟨by first | rfl | (simp; done) | omega | (simp; omega), (by have := hc14; first | omega | (simp only [List.length_set]; omega) | (simp only [Int.toNat_natCast] at *; omega) | (simp at this ⊢; omega))⟩) .nil)))) .nil (At.keep (ts := [7]) (ids := [6, 7, 90000, 90001, 90002, 90003, 90004, 90005, 90006]) rfl rfl ?_)
         refine At.convM (.cons (.refl _) (.cons (.refl _) (.cons (.refl _) (.cons (.refl _) (.cons (.refl _) (.cons (y := bufL 3 1 enc_Int (y10.2.2.1.set (x1).toNat p0)) (BSim.seg (Seg.set (Seg.refl enc_Int _) p0 rfl)) (.cons (.refl _) (.cons (.refl _) (.cons (y := bufL 3 1 enc_Int (y10.2.2.2.set (p0).toNat x1)) (BSim.seg (Seg.set (Seg.refl enc_Int _) x1 rfl)) .nil))))))))) ?_
         refine At.thenC ?_
         refine W.rg env [7] [6, 7, 90000, 90001, 90002, 90003, 90004, 90005, 90006] ?_
         refine W.ret ?_
         refine At.rinb ?_
         refine At.keep (ts := []) (ids := [6, 7, 90000, 90001, 90002, 90003, 90004, 90005, 90006]) rfl rfl ?_
         exact At.conv .nil (.cons .q (.cons .q (.cons .q (.cons .q (.cons (BSim.cells (.cons .qc .nil)) (.cons .q (.cons .q (.cons (BSim.cells (.cons .qc .nil)) (.cons .q .nil))))))))) (hX2 .ret (true, y10.2.1, (y10.2.2.1.set (x1).toNat p0), (y10.2.2.2.set (p0).toNat x1)) ⟨rfl, H⟩)
       · have H := of_false H hb12
         refine W.skip ?_
         refine At.inb ?_
         refine At.keep (ts := []) (ids := [6, 7, 90000, 90001, 90002, 90003, 90004, 90005, 90006]) rfl rfl ?_
         exact At.conv .nil (.cons .q (.cons .q (.cons .q (.cons .q (.cons (BSim.cells (.cons .qc .nil)) (.cons .q (.cons .q (.cons (BSim.cells (.cons .qc .nil)) (.cons .q .nil))))))))) (hQ2 (y10.2.2.1, y10.2.2.2, y10.2.1) H)
   · refine At.inb ?_
     refine At.thenC ?_
     refine W.rg env [7] [7, 90000, 90001, 90002, 90003, 90004, 90005, 90006] ?_
     refine W.ret ?_
     cases H
     exact At.retL env.ty [90000, 90001, 90002, 90003, 90004, 90005, 90006] rfl rfl rfl rfl (.cons (.refl _) (.cons (.refl _) (.cons (BSim.cells (.cons .qc .nil)) (.cons (.refl _) (.cons (.refl _) (.cons (BSim.cells (.cons .qc .nil)) (.cons (.refl _) .nil))))))) (.refl _) hval hdom hent rfl rfl
   · obtain ⟨rfl, H⟩ := h
     refine At.rinb ?_
     refine At.rthen ?_
     cases H
     exact At.retL env.ty [90000, 90001, 90002, 90003, 90004, 90005, 90006] rfl rfl rfl rfl (.cons (.refl _) (.cons (.refl _) (.cons (BSim.cells (.cons .qc .nil)) (.cons (.refl _) (.cons (.refl _) (.cons (BSim.cells (.cons .qc .nil)) (.cons (.refl _) .nil))))))) (.refl _) hval hdom hent rfl rfl
theorem c_crew_plan__pair (fuel : Nat) (p0 : crew_plan) {r : ((List Int) × (List Int))} (H : crew_plan__pair fuel p0 = some r) : Ctr Try.prog 59 [.rp [roL 4 enc_Task p0.Crew.Tasks, roL 1 enc_ListRange p0.Crew.Travel, roL 3 enc_Hand p0.Crew.Hands, roL 1 enc_Int p0.next]] (.tup [roL 1 enc_Int r.1, roL 1 enc_Int r.2]) := by
 unfold crew_plan__pair at H
 refine Ctr.of_body (N := 47) Try.func59 (by kernel_rfl) (c := _) rfl Try.ntmps59 rfl (fun w0 h0 hval => ?_)
 refine W.rg env [1, 2, 3] [1, 2, 3] ?_
 refine W.seq ?_
 obtain ⟨hc1, H⟩ := of_must H
 obtain ⟨hc2, H⟩ := of_must H
 refine W.region env [] [] rfl rfl (by first | rfl | kernel_rfl) (.cons hc1 (.cons hc2 .nil)) .nil (At.keep (ts := [1, 2, 3]) (ids := [1, 2, 3, 13, 19]) rfl rfl ?_)
 refine At.convM (.cons (.refl _) (.cons (.refl _) (.cons (.refl _) (.cons (y := bufL 3 1 enc_Int (List.replicate (((p0.next.length : Nat) : Int)).toNat (0 : Int))) (BSim.seg (Seg.made (f := enc_Int) 0 rfl)) (.cons (y := bufL 3 1 enc_Int (List.replicate (((p0.next.length : Nat) : Int)).toNat (0 : Int))) (BSim.seg (Seg.made (f := enc_Int) 0 rfl)) .nil))))) ?_
 refine At.thenC ?_
 refine W.seq ?_
 refine W.sr env [] [] [1, 2, 3, 21, 22] [1, 2, 3, 13, 19] rfl rfl rfl (.cons (by first | rfl | (simp; done) | omega | (simp; omega)) .nil) .nil ?_
 refine W.block ?_
 refine At.keep (ts := [1, 2, 3, 21, 22]) (ids := [1, 2, 3, 13, 19]) rfl rfl ?_
 obtain ⟨hn3, H⟩ := of_must H
 refine W.rangeGo H (fun i3 (s3 : (List Int) × (List Int)) => [(1, .lp 1 0), (2, .lp 2 0), (3, .lp 3 0), (21, .int .i64 ((((List.replicate (((p0.next.length : Nat) : Int)).toNat (0 : Int)).length : Nat) : Int))), (22, .int .i64 ((i3 : Int)))]) (fun i3 (s3 : (List Int) × (List Int)) => [(1, .cells [.rp [roL 4 enc_Task p0.Crew.Tasks, roL 1 enc_ListRange p0.Crew.Travel, roL 3 enc_Hand p0.Crew.Hands, roL 1 enc_Int p0.next]]), (2, .cells [.buf 13 (s3.1).length]), (3, .cells [.buf 19 (s3.2).length]), (13, bufL 3 1 enc_Int s3.1), (19, bufL 3 1 enc_Int s3.2)]) (.cons .q (.cons .q (.cons .q (.cons .qi (.cons .qi .nil))))) (.cons .q (.cons (BSim.cells (.cons .qc .nil)) (.cons (BSim.cells (.cons .qc .nil)) (.cons .q (.cons .q .nil))))) (fun k3 i3 s3 hle3 H1 H2 K0 hK3 => ?_)
 refine W.rg env [1, 2, 3, 21, 22, 23] [1, 2, 3, 13, 19] ?_
 refine W.seq ?_
 refine W.cond rfl (fun hb4 => ?_) (fun hb4 => ?_)
 · have hi3 : i3 < (List.replicate (((p0.next.length : Nat) : Int)).toNat (0 : Int)).length := by have := of_decide_eq_true hb4; omega
   have H := H1 hi3
   refine W.skip ?_
   refine At.thenC ?_
   refine W.seq ?_
   refine W.block ?_
   refine W.rg env [1, 2, 3, 4, 21, 22] [1, 2, 3, 13, 19] ?_
   obtain ⟨hc5, H⟩ := of_must H
   obtain ⟨hc6, H⟩ := of_must H
   refine W.region env [] [] rfl rfl (by first | rfl | kernel_rfl) (.cons (⟨by first | rfl | (simp; done) | omega | (simp; omega), hc5⟩) (.cons (⟨by first | rfl | (simp; done) | omega | (simp; omega), (by have := hc5; first | omega | (simp only [List.length_set]; omega) | (simp only [Int.toNat_natCast] at *; omega) | (simp at this ⊢; omega))⟩) (.cons (⟨by first | rfl | (simp; done) | omega | (simp; omega), hc6⟩) (.cons (⟨by first | rfl | (simp; done) | omega | (simp; omega), (by have := hc6; first | omega | (simp only [List.length_set]; omega) | (simp only [Int.toNat_natCast] at *; omega) | (simp at this ⊢; omega))⟩) .nil)))) .nil (At.keep (ts := [1, 2, 3, 21, 22]) (ids := [1, 2, 3, 13, 19]) rfl rfl ?_)
   refine At.convM (.cons (.refl _) (.cons (.refl _) (.cons (.refl _) (.cons (y := bufL 3 1 enc_Int (s3.1.set i3 (-1))) (BSim.seg (Seg.set (Seg.refl enc_Int _) (-1) rfl)) (.cons (y := bufL 3 1 enc_Int (s3.2.set i3 (-1))) (BSim.seg (Seg.set (Seg.refl enc_Int _) (-1) rfl)) .nil))))) ?_
   refine At.inb ?_
   refine At.thenC ?_
   refine W.region env [] [] rfl rfl rfl (.cons (by unfold inI; have := hn3; (try unfold maxLen at this); omega) .nil) .nil (At.keep (ts := [1, 2, 3, 21, 22]) (ids := [1, 2, 3, 13, 19]) rfl rfl ?_)
   refine At.thenK (At.keep (ts := [1, 2, 3, 21, 22]) (ids := [1, 2, 3, 13, 19]) rfl rfl ?_)
   exact At.conv (.cons .q (.cons .q (.cons .q (.cons .qi (.cons .qi .nil))))) (.cons .q (.cons (BSim.cells (.cons .qc .nil)) (.cons (BSim.cells (.cons .qc .nil)) (.cons .q (.cons .q .nil))))) (hK3 hi3 ((s3.1.set i3 (-1)), (s3.2.set i3 (-1))) H)
 · have H := H2 (by have := of_decide_eq_false hb4; omega)
   refine W.exit ?_
   refine At.xthen ?_
   refine At.xthen ?_
   refine At.xhere ?_
   refine At.thenC ?_
   refine W.seq ?_
   refine W.rg env [1, 2, 3, 36, 37] [1, 2, 3, 13, 19] ?_
   refine W.block ?_
   refine At.keep (ts := [1, 2, 3, 36, 37]) (ids := [1, 2, 3, 13, 19]) rfl rfl ?_
   obtain ⟨hn7, H⟩ := of_must H
   refine W.rangeGo H (fun i7 (s7 : (List Int) × (List Int)) => [(1, .lp 1 0), (2, .lp 2 0), (3, .lp 3 0), (36, .int .i64 (((p0.next.length : Nat) : Int))), (37, .int .i64 ((i7 : Int)))]) (fun i7 (s7 : (List Int) × (List Int)) => [(1, .cells [.rp [roL 4 enc_Task p0.Crew.Tasks, roL 1 enc_ListRange p0.Crew.Travel, roL 3 enc_Hand p0.Crew.Hands, roL 1 enc_Int p0.next]]), (2, .cells [.buf 13 (s7.1).length]), (3, .cells [.buf 19 (s7.2).length]), (13, bufL 3 1 enc_Int s7.1), (19, bufL 3 1 enc_Int s7.2)]) (.cons .q (.cons .q (.cons .q (.cons .qi (.cons .qi .nil))))) (.cons .q (.cons (BSim.cells (.cons .qc .nil)) (.cons (BSim.cells (.cons .qc .nil)) (.cons .q (.cons .q .nil))))) (fun k7 i7 s7 hle7 H1 H2 K0 hK7 => ?_)
   refine W.rg env [1, 2, 3, 36, 37, 38] [1, 2, 3, 13, 19] ?_
   refine W.seq ?_
   refine W.cond rfl (fun hb8 => ?_) (fun hb8 => ?_)
   · have hi7 : i7 < p0.next.length := by have := of_decide_eq_true hb8; omega
     have H := H1 hi7
     refine W.skip ?_
     refine At.thenC ?_
     refine W.seq ?_
     refine W.block ?_
     refine W.rg env [1, 2, 3, 5, 36, 37] [1, 2, 3, 13, 19] ?_
     refine W.rg env [1, 2, 3, 5, 6, 36, 37] [1, 2, 3, 6, 13, 19] ?_
     refine W.rg env [1, 2, 3, 5, 6, 7, 36, 37] [1, 2, 3, 6, 7, 13, 19] ?_
     refine W.rg env [1, 2, 3, 5, 7, 36, 37] [1, 2, 3, 6, 7, 13, 19] ?_
     obtain ⟨y9, hy10, H⟩ := of_bindO H
     refine W.region env [] [⟨.bool (y9.1), [(1, .cells [.rp [roL 4 enc_Task p0.Crew.Tasks, roL 1 enc_ListRange p0.Crew.Travel, roL 3 enc_Hand p0.Crew.Hands, roL 1 enc_Int p0.next]]), (6, .cells [.int .i64 (y9.2.1)]), (2, .cells [.buf 13 (y9.2.2.1).length]), (13, bufL 3 1 enc_Int y9.2.2.1), (7, .cells [.fn (.func 96) [] [.lp 1 0, .lp 6 0, .lp 2 0, .lp 7 0, .lp 3 0]]), (3, .cells [.buf 19 (y9.2.2.2).length]), (19, bufL 3 1 enc_Int y9.2.2.2)], 0, [1, 6, 2, 13, 7, 3, 19]⟩] rfl rfl (by kernel_rfl) .nil (.free (CtrO.sim (CtrO.ren (cl_crew_plan__pair_1_l fuel fuel (i7 : Int) p0 0 s7.1 s7.2 hy10) [(90000, 1), (90001, 6), (90002, 2), (90003, 13), (90004, 7), (90005, 3), (90006, 19)]) (.cons (.refl _) (.cons (.refl _) (.cons (.refl _) (.cons (.refl _) (.cons (.refl _) (.cons (.refl _) .nil)))))) (.cons (.refl _) (.cons (.refl _) (.cons (BSim.cells (.cons .qc .nil)) (.cons (.refl _) (.cons (.refl _) (.cons (BSim.cells (.cons .qc .nil)) (.cons (.refl _) .nil)))))))) .nil) (At.keep (ts := [1, 2, 3, 36, 37]) (ids := [1, 2, 3, 13, 19]) rfl rfl ?_)
     refine At.inb ?_
     refine At.thenC ?_
     refine W.region env [] [] rfl rfl rfl (.cons (by unfold inI; have := hn7; (try unfold maxLen at this); omega) .nil) .nil (At.keep (ts := [1, 2, 3, 36, 37]) (ids := [1, 2, 3, 13, 19]) rfl rfl ?_)
     refine At.thenK (At.keep (ts := [1, 2, 3, 36, 37]) (ids := [1, 2, 3, 13, 19]) rfl rfl ?_)
     exact At.conv (.cons .q (.cons .q (.cons .q (.cons .qi (.cons .qi .nil))))) (.cons .q (.cons (BSim.cells (.cons .qc .nil)) (.cons (BSim.cells (.cons .qc .nil)) (.cons .q (.cons .q .nil))))) (hK7 hi7 (y9.2.2.1, y9.2.2.2) H)
   · have H := H2 (by have := of_decide_eq_false hb8; omega)
     refine W.exit ?_
     refine At.xthen ?_
     refine At.xthen ?_
     refine At.xhere ?_
     refine At.thenC ?_
     refine W.sr env [] [] [2, 3] [2, 3, 13, 19] rfl rfl (by first | rfl | kernel_rfl) .nil .nil ?_
     refine W.ret ?_
     cases H
     exact At.ret env.ty rfl rfl (fun q hq => by cases hq; exact ⟨by first | rfl | (simp; done) | omega | (simp; omega), (by first | rfl | (simp; done) | omega | (simp; omega))⟩) (.refl _) hval
theorem c_crew_plan__count (fuel : Nat) (p0 : crew_plan) {r : Int} (H : crew_plan__count fuel p0 = some r) : Ctr Try.prog 65 [.rp [roL 4 enc_Task p0.Crew.Tasks, roL 1 enc_ListRange p0.Crew.Travel, roL 3 enc_Hand p0.Crew.Hands, roL 1 enc_Int p0.next]] (.int .i64 (r)) := by
 unfold crew_plan__count at H
 refine Ctr.of_body (N := 25) Try.func65 (by kernel_rfl) (c := _) rfl Try.ntmps65 rfl (fun w0 h0 hval => ?_)
 refine W.rg env [0] [] ?_
 refine W.seq ?_
 obtain ⟨y1, hy2, H⟩ := of_bindO H
 refine W.region env [] [⟨.tup [roL 1 enc_Int y1.1, roL 1 enc_Int y1.2], [], 0, []⟩] rfl rfl rfl .nil (.free (c_crew_plan__pair fuel p0 hy2) .nil) (At.keep (ts := [3]) (ids := []) rfl rfl ?_)
 refine At.thenC ?_
 refine W.rg env [3, 5] [] ?_
 refine W.seq ?_
 refine W.rg env [5, 13, 14, 15] [] ?_
 refine W.block ?_
 refine At.keep (ts := [5, 13, 14, 15]) (ids := []) rfl rfl ?_
 refine W.len (t := 13) rfl (fun (hn3 : y1.1.length ≤ maxLen) => ?_)
 refine W.rangeGo H (fun i3 (s3 : Int) => [(5, .int .i64 (s3)), (13, roL 1 enc_Int y1.1), (14, .int .i64 (((y1.1.length : Nat) : Int))), (15, .int .i64 ((i3 : Int)))]) (fun i3 (s3 : Int) => []) (.cons .qi (.cons .q (.cons .qi (.cons .qi .nil)))) .nil (fun k3 i3 s3 hle3 H1 H2 K0 hK3 => ?_)
 refine W.rg env [5, 13, 14, 15, 16] [] ?_
 refine W.seq ?_
 refine W.cond rfl (fun hb4 => ?_) (fun hb4 => ?_)
 · have hi3 : i3 < y1.1.length := by have := of_decide_eq_true hb4; omega
   have H := H1 hi3
   refine W.skip ?_
   refine At.thenC ?_
   refine W.seq ?_
   refine W.block ?_
   refine W.sr env [] [] [5, 7, 13, 14, 15] [] rfl rfl rfl (.cons (⟨by omega, by omega⟩ : 0 ≤ (i3 : Int) ∧ (i3 : Int) < ((y1.1.length : Nat) : Int)) .nil) .nil ?_
   refine W.rg env [5, 13, 14, 15, 20] [] ?_
   refine W.cond rfl (fun hb5 => ?_) (fun hb5 => ?_)
   · have H := of_true H hb5
     obtain ⟨hc6, H⟩ := of_must H
     refine W.region env [] [] rfl rfl rfl (.cons hc6 .nil) .nil (At.keep (ts := [5, 13, 14, 15]) (ids := []) rfl rfl ?_)
     refine At.inb ?_
     refine At.thenC ?_
     refine W.region env [] [] rfl rfl rfl (.cons (by unfold inI; have := hn3; (try unfold maxLen at this); omega) .nil) .nil (At.keep (ts := [5, 13, 14, 15]) (ids := []) rfl rfl ?_)
     refine At.thenK (At.keep (ts := [5, 13, 14, 15]) (ids := []) rfl rfl ?_)
     exact At.conv (.cons .qi (.cons .q (.cons .qi (.cons .qi .nil)))) .nil (hK3 hi3 (s3 + 1) H)
   · have H := of_false H hb5
     refine W.skip ?_
     refine At.inb ?_
     refine At.thenC ?_
     refine W.region env [] [] rfl rfl rfl (.cons (by unfold inI; have := hn3; (try unfold maxLen at this); omega) .nil) .nil (At.keep (ts := [5, 13, 14, 15]) (ids := []) rfl rfl ?_)
     refine At.thenK (At.keep (ts := [5, 13, 14, 15]) (ids := []) rfl rfl ?_)
     exact At.conv (.cons .qi (.cons .q (.cons .qi (.cons .qi .nil)))) .nil (hK3 hi3 s3 H)
 · have H := H2 (by have := of_decide_eq_false hb4; omega)
   refine W.exit ?_
   refine At.xthen ?_
   refine At.xthen ?_
   refine At.xhere ?_
   refine At.thenC ?_
   refine W.rg env [2] [] ?_
   refine W.ret ?_
   cases H
   exact At.ret env.ty rfl rfl (fun q hq => by cases hq) (.refl _) hval
theorem c_crew_Count (fuel : Nat) (p0 : Crew) {r : (Int × Int)} (H : crew_Count fuel p0 = some r) : Ctr Try.prog 22 [.agg [roL 4 enc_Task p0.Tasks, roL 1 enc_ListRange p0.Travel, roL 3 enc_Hand p0.Hands]] (.tup [.int .i64 (r.1), .int .i64 (r.2)]) := by
 unfold crew_Count at H
 refine Ctr.of_body (N := 13) Try.func22 (by kernel_rfl) (c := _) rfl Try.ntmps22 rfl (fun w0 h0 hval => ?_)
 refine W.rg env [1] [1] ?_
 refine W.seq ?_
 refine W.seq ?_
 obtain ⟨y1, hy2, H⟩ := of_bindO H
 refine W.region env [] [⟨.int .i64 (y1), [], 0, []⟩] rfl rfl rfl .nil (.free (c_crew_Check p0 hy2) .nil) (At.keep (ts := [1, 4]) (ids := [1]) rfl rfl ?_)
 refine At.thenC ?_
 refine W.rg env [1, 4, 8] [1] ?_
 refine W.cond rfl (fun hb3 => ?_) (fun hb3 => ?_)
 · have H := of_true H hb3
   refine W.rg env [2, 3] [] ?_
   refine W.ret ?_
   refine At.rthen ?_
   cases H
   exact At.ret env.ty rfl rfl (fun q hq => by cases hq) (.refl _) hval
 · have H := of_false H hb3
   refine W.skip ?_
   refine At.thenC ?_
   refine W.seq ?_
   obtain ⟨y4, hy5, H⟩ := of_bindO H
   obtain ⟨hc6, H⟩ := of_must H
   obtain ⟨y7, hy8, H⟩ := of_bindO H
   refine W.region env [] [⟨.po y4.isSome [roL 4 enc_Task ((y4.getD default).Crew.Tasks), roL 1 enc_ListRange ((y4.getD default).Crew.Travel), roL 3 enc_Hand ((y4.getD default).Crew.Hands), roL 1 enc_Int ((y4.getD default).next)], [], 0, []⟩, ⟨.int .i64 (y7), [], 0, []⟩] rfl rfl rfl .nil (.free (c_crew_newPlan p0 (fun x0 => some (crew_most x0)) 46 [] [] (fun x0 r h => by cases h; exact c_crew_most x0) hy5) (.free (Ctr.sim (.cons (Sim.rp_po hc6) .nil) (c_crew_plan__count fuel (y4.getD default) hy8)) .nil)) (At.keep (ts := [2, 3]) (ids := []) rfl rfl ?_)
   refine At.thenC ?_
   refine W.ret ?_
   cases H
   exact At.ret env.ty rfl rfl (fun q hq => by cases hq) (.refl _) hval
theorem cl_gasolierref04_matched_l (fuel : Nat) : ∀ (n : Nat) (p0 : Crew) (p1 : Int) (p2 : (List Int)) (p3 : (List Bool)) {r : (Bool × (List Int) × (List Bool))} (H : gasolierref04_matched_l fuel n p0 p1 p2 p3 = some r), CtrO Try.prog 97 [.agg [roL 4 enc_Task p0.Tasks, roL 1 enc_ListRange p0.Travel, roL 3 enc_Hand p0.Hands], .int .i64 (p1), .buf 90000 (p2).length, .buf 90001 (p3).length] [(90000, bufL 3 1 enc_Int p2), (90001, bufL 4 1 enc_Bool p3)] (.bool (r.1)) [(90000, bufL 3 1 enc_Int r.2.1), (90001, bufL 4 1 enc_Bool r.2.2)] := by
 intro n; induction n with
 | zero => intro p0 p1 p2 p3 r H; cases H
 | succ n ih =>
   intro p0 p1 p2 p3 r H
   have H : gasolierref04_matched_l_F fuel (gasolierref04_matched_l fuel n) p0 p1 p2 p3 = some r := H
   unfold gasolierref04_matched_l_F at H
   refine CtrL.of_body (N := 50) Try.func97 (by kernel_rfl) (c := _) rfl Try.ntmps97 rfl rfl (fun w0 h0 ρb hval hdom hent => ?_)
   refine W.rg env [1, 2, 3, 4] [4, 90000, 90001] ?_
   refine W.seq ?_
   refine W.rg env [1, 2, 3, 4, 12, 13] [4, 90000, 90001] ?_
   refine W.block ?_
   refine At.keep (ts := [1, 2, 3, 4, 12, 13]) (ids := [4, 90000, 90001]) rfl rfl ?_
   obtain ⟨hn1, H⟩ := of_must H
   refine W.rangeGo H (fun i1 (s1 : (List Int) × (List Bool)) => [(1, .int .i64 (p1)), (2, .buf 90000 (s1.1).length), (3, .buf 90001 (s1.2).length), (4, .lp 4 0), (12, .int .i64 (((p0.Tasks.length : Nat) : Int))), (13, .int .i64 ((i1 : Int)))]) (fun i1 (s1 : (List Int) × (List Bool)) => [(4, .cells [roL 4 enc_Task p0.Tasks, roL 1 enc_ListRange p0.Travel, roL 3 enc_Hand p0.Hands]), (90000, bufL 3 1 enc_Int s1.1), (90001, bufL 4 1 enc_Bool s1.2)]) (.cons .qi (.cons .qb (.cons .qb (.cons .q (.cons .qi (.cons .qi .nil)))))) (.cons .q (.cons .q (.cons .q .nil))) (fun k1 i1 s1 hle1 H1 H2 K0 hK1 => ?_)
   refine W.rg env [1, 2, 3, 4, 12, 13, 14] [4, 90000, 90001] ?_
   refine W.seq ?_
   refine W.cond rfl (fun hb2 => ?_) (fun hb2 => ?_)
   · have hi1 : i1 < p0.Tasks.length := by have := of_decide_eq_true hb2; omega
     have H := H1 hi1
     refine W.skip ?_
     refine At.thenC ?_
     refine W.seq ?_
     refine W.joinC H (fun (s3 : (List Int) × (List Bool)) => [(1, .int .i64 (p1)), (2, .buf 90000 (s3.1).length), (3, .buf 90001 (s3.2).length), (4, .lp 4 0), (12, .int .i64 (((p0.Tasks.length : Nat) : Int))), (13, .int .i64 ((i1 : Int)))]) (fun (s3 : (List Int) × (List Bool)) => [(4, .cells [roL 4 enc_Task p0.Tasks, roL 1 enc_ListRange p0.Travel, roL 3 enc_Hand p0.Hands]), (90000, bufL 3 1 enc_Int s3.1), (90001, bufL 4 1 enc_Bool s3.2)]) (fun s3 H => ?_) (fun k3 H hK3 => ?_)
     · refine W.region env [] [] rfl rfl rfl (.cons (by unfold inI; have := hn1; (try unfold maxLen at this); omega) .nil) .nil (At.keep (ts := [1, 2, 3, 4, 12, 13]) (ids := [4, 90000, 90001]) rfl rfl ?_)
       refine At.thenK (At.keep (ts := [1, 2, 3, 4, 12, 13]) (ids := [4, 90000, 90001]) rfl rfl ?_)
       exact At.conv (.cons .qi (.cons .qb (.cons .qb (.cons .q (.cons .qi (.cons .qi .nil)))))) (.cons .q (.cons .q (.cons .q .nil))) (hK1 hi1 (s3.1, s3.2) H)
     · refine W.block ?_
       refine W.rg env [1, 2, 3, 4, 9, 12, 13] [4, 90000, 90001] ?_
       refine W.seq ?_
       refine W.seq ?_
       obtain ⟨hc4, H⟩ := of_must H
       obtain ⟨y5, hy6, H⟩ := of_bindO H
       refine W.region env [] [⟨.int .i64 (y5), [], 0, []⟩] rfl rfl rfl (.cons (⟨by first | rfl | (simp; done) | omega | (simp; omega), hc4⟩) (.cons (⟨by first | rfl | (simp; done) | omega | (simp; omega), (by have := hc4; first | omega | (simp only [List.length_set]; omega) | (simp only [Int.toNat_natCast] at *; omega) | (simp at this ⊢; omega))⟩) (.cons (fun h => h) (.cons (fun h => h) (.cons (fun h => h) (.cons (fun h => h) (.cons (fun h => by rw [h]; rfl) .nil))))))) (.on (fun hW => c_gasolierref04_follows p0 p1 (i1 : Int) (of_true hy6 hW)) .nil) (At.keep (ts := [1, 2, 3, 4, 9, 12, 13, 26]) (ids := [4, 90000, 90001]) rfl rfl ?_)
       refine At.thenC ?_
       refine W.cond rfl (fun hb7 => ?_) (fun hb7 => ?_)
       · have H := of_true H hb7
         refine W.exit ?_
         refine At.xthen ?_
         refine At.xhere ?_
         refine At.thenK (At.keep (ts := [1, 2, 3, 4, 12, 13]) (ids := [4, 90000, 90001]) rfl rfl ?_)
         exact At.conv (.cons .qi (.cons .qb (.cons .qb (.cons .q (.cons .qi (.cons .qi .nil)))))) (.cons .q (.cons .q (.cons .q .nil))) (hK3 (s1.1, s1.2) H)
       · have H := of_false H hb7
         refine W.skip ?_
         refine At.thenC ?_
         refine W.seq ?_
         obtain ⟨hc8, H⟩ := of_must H
         refine W.region env [] [] rfl rfl rfl (.cons (⟨by first | rfl | (simp; done) | omega | (simp; omega), hc8⟩) (.cons (⟨by first | rfl | (simp; done) | omega | (simp; omega), (by have := hc8; first | omega | (simp only [List.length_set]; omega) | (simp only [Int.toNat_natCast] at *; omega) | (simp at this ⊢; omega))⟩) .nil)) .nil (At.keep (ts := [1, 2, 3, 4, 9, 12, 13]) (ids := [4, 90000, 90001]) rfl rfl ?_)
         refine At.convM (.cons (.refl _) (.cons (.refl _) (.cons (y := bufL 4 1 enc_Bool (s1.2.set i1 true)) (BSim.seg (Seg.set (Seg.refl enc_Bool _) true rfl)) .nil))) ?_
         refine At.thenC ?_
         refine W.seq ?_
         obtain ⟨hc9, H⟩ := of_must H
         obtain ⟨hc10, H⟩ := of_must H
         obtain ⟨y11, hy12, H⟩ := of_bindO H
         obtain ⟨hc13, H⟩ := of_must H
         obtain ⟨hc14, H⟩ := of_must H
         refine W.region env [] [⟨.bool (y11.1), [(90000, bufL 3 1 enc_Int y11.2.1), (90001, bufL 4 1 enc_Bool y11.2.2)], 0, [90000, 90001]⟩] rfl rfl (by kernel_rfl) (.cons (⟨by first | rfl | (simp; done) | omega | (simp; omega), hc9⟩) (.cons (⟨by first | rfl | (simp; done) | omega | (simp; omega), (by have := hc9; first | omega | (simp only [List.length_set]; omega) | (simp only [Int.toNat_natCast] at *; omega) | (simp at this ⊢; omega))⟩) (.cons (fun hW => ⟨by first | rfl | (simp; done) | omega | (simp; omega), hc10 hW⟩) (.cons (fun h => h) (.cons (fun h => h) (.cons (fun hW => (⟨by first | rfl | (simp; done) | omega | (simp; omega), (by have := hc10 hW; first | omega | (simp only [List.length_set]; omega) | (simp only [Int.toNat_natCast] at *; omega) | (simp at this ⊢; omega))⟩)) (.cons (fun h => h) (.cons (fun hW => by obtain rfl := lend_off hy12 hW; first | exact .refl _ | exact .q) (.cons (fun hW => by obtain rfl := lend_off hy12 hW; first | exact .refl _ | exact .q) (.cons (fun h => h) (.cons (fun h => h) (.cons (fun h => h) (.cons (fun h => h) (.cons (fun h => by rw [h]; rfl) .nil)))))))))))))) (.on (fun hW => (CtrO.sim (CtrO.ren (ih p0 (s1.1.getD i1 default) s1.1 (s1.2.set i1 true) (of_true hy12 hW)) [(90000, 90000), (90001, 90001)]) (.cons (.refl _) (.cons (.refl _) (.cons .qc (.cons .qc .nil)))) (.cons (.refl _) (.cons (.refl _) .nil)))) .nil) (At.keep (ts := [1, 2, 3, 4, 9, 12, 13, 44]) (ids := [4, 90000, 90001]) rfl rfl ?_)
         refine At.thenC ?_
         refine W.cond rfl (fun hb15 => ?_) (fun hb15 => ?_)
         · have H := of_true H hb15
           refine W.seq ?_
           obtain ⟨hc16, H⟩ := of_must H
           refine W.region env [] [] rfl rfl rfl (.cons (⟨by first | rfl | (simp; done) | omega | (simp; omega), hc16⟩) (.cons (⟨by first | rfl | (simp; done) | omega | (simp; omega), (by have := hc16; first | omega | (simp only [List.length_set]; omega) | (simp only [Int.toNat_natCast] at *; omega) | (simp at this ⊢; omega))⟩) .nil)) .nil (At.keep (ts := []) (ids := [90000, 90001]) rfl rfl ?_)
           refine At.convM (.cons (y := bufL 3 1 enc_Int (y11.2.1.set i1 p1)) (BSim.seg (Seg.set (Seg.refl enc_Int _) p1 rfl)) (.cons (.refl _) .nil)) ?_
           refine At.thenC ?_
           refine W.rg env [8] [90000, 90001] ?_
           refine W.ret ?_
           refine At.rinb ?_
           refine At.rthen ?_
           refine At.rthen ?_
           refine At.rinb ?_
           refine At.rthen ?_
           cases H
           exact At.retL env.ty [90000, 90001] rfl rfl rfl rfl (.cons (.refl _) (.cons (.refl _) .nil)) (.refl _) hval hdom hent rfl rfl
         · have H := of_false H hb15
           refine W.skip ?_
           refine At.inb ?_
           refine At.thenK (At.keep (ts := [1, 2, 3, 4, 12, 13]) (ids := [4, 90000, 90001]) rfl rfl ?_)
           exact At.conv (.cons .qi (.cons .qb (.cons .qb (.cons .q (.cons .qi (.cons .qi .nil)))))) (.cons .q (.cons .q (.cons .q .nil))) (hK3 (y11.2.1, y11.2.2) H)
   · have H := H2 (by have := of_decide_eq_false hb2; omega)
     refine W.exit ?_
     refine At.xthen ?_
     refine At.xthen ?_
     refine At.xhere ?_
     refine At.thenC ?_
     refine W.rg env [8] [90000, 90001] ?_
     refine W.ret ?_
     cases H
     exact At.retL env.ty [90000, 90001] rfl rfl rfl rfl (.cons (.refl _) (.cons (.refl _) .nil)) (.refl _) hval hdom hent rfl rfl
theorem c_gasolierref04_count (fuel : Nat) (p0 : Crew) {r : Int} (H : gasolierref04_count fuel p0 = some r) : Ctr Try.prog 66 [.agg [roL 4 enc_Task p0.Tasks, roL 1 enc_ListRange p0.Travel, roL 3 enc_Hand p0.Hands]] (.int .i64 (r)) := by
 unfold gasolierref04_count at H
 refine Ctr.of_body (N := 41) Try.func66 (by kernel_rfl) (c := _) rfl Try.ntmps66 rfl (fun w0 h0 hval => ?_)
 refine W.rg env [1] [1] ?_
 refine W.seq ?_
 obtain ⟨hc1, H⟩ := of_must H
 refine W.region env [] [] rfl rfl rfl (.cons hc1 .nil) .nil (At.keep (ts := [1, 3]) (ids := [1, 10]) rfl rfl ?_)
 refine At.convM (.cons (.refl _) (.cons (y := bufL 3 1 enc_Int (List.replicate (((p0.Tasks.length : Nat) : Int)).toNat (0 : Int))) (BSim.seg (Seg.made (f := enc_Int) 0 rfl)) .nil)) ?_
 refine At.thenC ?_
 refine W.seq ?_
 refine W.sr env [] [] [1, 3, 12, 13] [1, 10] rfl rfl rfl (.cons (by first | rfl | (simp; done) | omega | (simp; omega)) .nil) .nil ?_
 refine W.block ?_
 refine At.keep (ts := [1, 3, 12, 13]) (ids := [1, 10]) rfl rfl ?_
 obtain ⟨hn2, H⟩ := of_must H
 refine W.rangeGo H (fun i2 (s2 : (List Int)) => [(1, .lp 1 0), (3, .buf 10 (s2).length), (12, .int .i64 ((((List.replicate (((p0.Tasks.length : Nat) : Int)).toNat (0 : Int)).length : Nat) : Int))), (13, .int .i64 ((i2 : Int)))]) (fun i2 (s2 : (List Int)) => [(1, .cells [roL 4 enc_Task p0.Tasks, roL 1 enc_ListRange p0.Travel, roL 3 enc_Hand p0.Hands]), (10, bufL 3 1 enc_Int s2)]) (.cons .q (.cons .qb (.cons .qi (.cons .qi .nil)))) (.cons .q (.cons .q .nil)) (fun k2 i2 s2 hle2 H1 H2 K0 hK2 => ?_)
 refine W.rg env [1, 3, 12, 13, 14] [1, 10] ?_
 refine W.seq ?_
 refine W.cond rfl (fun hb3 => ?_) (fun hb3 => ?_)
 · have hi2 : i2 < (List.replicate (((p0.Tasks.length : Nat) : Int)).toNat (0 : Int)).length := by have := of_decide_eq_true hb3; omega
   have H := H1 hi2
   refine W.skip ?_
   refine At.thenC ?_
   refine W.seq ?_
   refine W.block ?_
   refine W.rg env [1, 3, 4, 12, 13] [1, 10] ?_
   obtain ⟨hc4, H⟩ := of_must H
   refine W.region env [] [] rfl rfl rfl (.cons (⟨by first | rfl | (simp; done) | omega | (simp; omega), hc4⟩) (.cons (⟨by first | rfl | (simp; done) | omega | (simp; omega), (by have := hc4; first | omega | (simp only [List.length_set]; omega) | (simp only [Int.toNat_natCast] at *; omega) | (simp at this ⊢; omega))⟩) .nil)) .nil (At.keep (ts := [1, 3, 12, 13]) (ids := [1, 10]) rfl rfl ?_)
   refine At.convM (.cons (.refl _) (.cons (y := bufL 3 1 enc_Int (s2.set i2 (-1))) (BSim.seg (Seg.set (Seg.refl enc_Int _) (-1) rfl)) .nil)) ?_
   refine At.inb ?_
   refine At.thenC ?_
   refine W.region env [] [] rfl rfl rfl (.cons (by unfold inI; have := hn2; (try unfold maxLen at this); omega) .nil) .nil (At.keep (ts := [1, 3, 12, 13]) (ids := [1, 10]) rfl rfl ?_)
   refine At.thenK (At.keep (ts := [1, 3, 12, 13]) (ids := [1, 10]) rfl rfl ?_)
   exact At.conv (.cons .q (.cons .qb (.cons .qi (.cons .qi .nil)))) (.cons .q (.cons .q .nil)) (hK2 hi2 (s2.set i2 (-1)) H)
 · have H := H2 (by have := of_decide_eq_false hb3; omega)
   refine W.exit ?_
   refine At.xthen ?_
   refine At.xthen ?_
   refine At.xhere ?_
   refine At.thenC ?_
   refine W.rg env [1, 3, 5] [1, 10] ?_
   refine W.seq ?_
   refine W.rg env [1, 3, 5, 25, 26] [1, 10] ?_
   refine W.block ?_
   refine At.keep (ts := [1, 3, 5, 25, 26]) (ids := [1, 10]) rfl rfl ?_
   obtain ⟨hn5, H⟩ := of_must H
   refine W.rangeGo H (fun i5 (s5 : Int × (List Int)) => [(1, .lp 1 0), (3, .buf 10 (s5.2).length), (5, .int .i64 (s5.1)), (25, .int .i64 (((p0.Tasks.length : Nat) : Int))), (26, .int .i64 ((i5 : Int)))]) (fun i5 (s5 : Int × (List Int)) => [(1, .cells [roL 4 enc_Task p0.Tasks, roL 1 enc_ListRange p0.Travel, roL 3 enc_Hand p0.Hands]), (10, bufL 3 1 enc_Int s5.2)]) (.cons .q (.cons .qb (.cons .qi (.cons .qi (.cons .qi .nil))))) (.cons .q (.cons .q .nil)) (fun k5 i5 s5 hle5 H1 H2 K0 hK5 => ?_)
   refine W.rg env [1, 3, 5, 25, 26, 27] [1, 10] ?_
   refine W.seq ?_
   refine W.cond rfl (fun hb6 => ?_) (fun hb6 => ?_)
   · have hi5 : i5 < p0.Tasks.length := by have := of_decide_eq_true hb6; omega
     have H := H1 hi5
     refine W.skip ?_
     refine At.thenC ?_
     refine W.seq ?_
     refine W.block ?_
     refine W.rg env [1, 3, 5, 6, 25, 26] [1, 10] ?_
     refine W.seq ?_
     obtain ⟨hc7, H⟩ := of_must H
     obtain ⟨y8, hy9, H⟩ := of_bindO H
     obtain ⟨hc10, H⟩ := of_must H
     refine W.region env [] [⟨.bool (y8.1), [(10, bufL 3 1 enc_Int y8.2.1), (35, bufL 4 1 enc_Bool y8.2.2)], 0, [10, 35]⟩] rfl rfl (by kernel_rfl) (.cons hc7 .nil) (.free (CtrO.sim (CtrO.ren (cl_gasolierref04_matched_l fuel fuel p0 (i5 : Int) s5.2 (List.replicate (((p0.Tasks.length : Nat) : Int)).toNat (false : Bool)) hy9) [(90000, 10), (90001, 35)]) (.cons (.refl _) (.cons (.refl _) (.cons .qc (.cons .qc .nil)))) (.cons (.refl _) (.cons (BSim.seg (Seg.made (f := enc_Bool) false rfl)) .nil))) .nil) (At.keep (ts := [1, 3, 5, 25, 26, 36]) (ids := [1, 10]) rfl rfl ?_)
     refine At.thenC ?_
     refine W.cond rfl (fun hb11 => ?_) (fun hb11 => ?_)
     · have H := of_true H hb11
       obtain ⟨hc12, H⟩ := of_must H
       refine W.region env [] [] rfl rfl rfl (.cons hc12 .nil) .nil (At.keep (ts := [1, 3, 5, 25, 26]) (ids := [1, 10]) rfl rfl ?_)
       refine At.inb ?_
       refine At.thenC ?_
       refine W.region env [] [] rfl rfl rfl (.cons (by unfold inI; have := hn5; (try unfold maxLen at this); omega) .nil) .nil (At.keep (ts := [1, 3, 5, 25, 26]) (ids := [1, 10]) rfl rfl ?_)
       refine At.thenK (At.keep (ts := [1, 3, 5, 25, 26]) (ids := [1, 10]) rfl rfl ?_)
       exact At.conv (.cons .q (.cons .qb (.cons .qi (.cons .qi (.cons .qi .nil))))) (.cons .q (.cons .q .nil)) (hK5 hi5 ((s5.1 - 1), y8.2.1) H)
     · have H := of_false H hb11
       refine W.skip ?_
       refine At.inb ?_
       refine At.thenC ?_
       refine W.region env [] [] rfl rfl rfl (.cons (by unfold inI; have := hn5; (try unfold maxLen at this); omega) .nil) .nil (At.keep (ts := [1, 3, 5, 25, 26]) (ids := [1, 10]) rfl rfl ?_)
       refine At.thenK (At.keep (ts := [1, 3, 5, 25, 26]) (ids := [1, 10]) rfl rfl ?_)
       exact At.conv (.cons .q (.cons .qb (.cons .qi (.cons .qi (.cons .qi .nil))))) (.cons .q (.cons .q .nil)) (hK5 hi5 (s5.1, y8.2.1) H)
   · have H := H2 (by have := of_decide_eq_false hb6; omega)
     refine W.exit ?_
     refine At.xthen ?_
     refine At.xthen ?_
     refine At.xhere ?_
     refine At.thenC ?_
     refine W.rg env [2] [] ?_
     refine W.ret ?_
     cases H
     exact At.ret env.ty rfl rfl (fun q hq => by cases hq) (.refl _) hval
theorem c_gasolierref04_Count (fuel : Nat) (p0 : Crew) {r : (Int × Int)} (H : gasolierref04_Count fuel p0 = some r) : Ctr Try.prog 23 [.agg [roL 4 enc_Task p0.Tasks, roL 1 enc_ListRange p0.Travel, roL 3 enc_Hand p0.Hands]] (.tup [.int .i64 (r.1), .int .i64 (r.2)]) := by
 unfold gasolierref04_Count at H
 refine Ctr.of_body (N := 12) Try.func23 (by kernel_rfl) (c := _) rfl Try.ntmps23 rfl (fun w0 h0 hval => ?_)
 refine W.rg env [1] [1] ?_
 refine W.seq ?_
 refine W.seq ?_
 obtain ⟨y1, hy2, H⟩ := of_bindO H
 refine W.region env [] [⟨.int .i64 (y1), [], 0, []⟩] rfl rfl rfl .nil (.free (c_gasolierref04_Check p0 hy2) .nil) (At.keep (ts := [1, 4]) (ids := [1]) rfl rfl ?_)
 refine At.thenC ?_
 refine W.rg env [1, 4, 8] [1] ?_
 refine W.cond rfl (fun hb3 => ?_) (fun hb3 => ?_)
 · have H := of_true H hb3
   refine W.rg env [2, 3] [] ?_
   refine W.ret ?_
   refine At.rthen ?_
   cases H
   exact At.ret env.ty rfl rfl (fun q hq => by cases hq) (.refl _) hval
 · have H := of_false H hb3
   refine W.skip ?_
   refine At.thenC ?_
   refine W.seq ?_
   obtain ⟨y4, hy5, H⟩ := of_bindO H
   refine W.region env [] [⟨.int .i64 (y4), [], 0, []⟩] rfl rfl rfl .nil (.free (c_gasolierref04_count fuel p0 hy5) .nil) (At.keep (ts := [2, 3]) (ids := []) rfl rfl ?_)
   refine At.thenC ?_
   refine W.ret ?_
   cases H
   exact At.ret env.ty rfl rfl (fun q hq => by cases hq) (.refl _) hval
theorem c_crew_Bounds (fuel : Nat) (p0 : Crew) {r : (Range × Int)} (H : crew_Bounds fuel p0 = some r) : Ctr Try.prog 24 [.agg [roL 4 enc_Task p0.Tasks, roL 1 enc_ListRange p0.Travel, roL 3 enc_Hand p0.Hands]] (.tup [.agg [.int .i64 (r.1.Lo), .int .i64 (r.1.Hi)], .int .i64 (r.2)]) := by
 unfold crew_Bounds at H
 refine Ctr.of_body (N := 18) Try.func24 (by kernel_rfl) (c := _) rfl Try.ntmps24 rfl (fun w0 h0 hval => ?_)
 refine W.rg env [1, 2] [1, 2] ?_
 refine W.seq ?_
 refine W.seq ?_
 obtain ⟨y1, hy2, H⟩ := of_bindO H
 refine W.region env [] [⟨.int .i64 (y1), [], 0, []⟩] rfl rfl rfl .nil (.free (c_crew_Check p0 hy2) .nil) (At.keep (ts := [1, 2, 4]) (ids := [1, 2]) rfl rfl ?_)
 refine At.thenC ?_
 refine W.rg env [1, 2, 4, 8] [1, 2] ?_
 refine W.cond rfl (fun hb3 => ?_) (fun hb3 => ?_)
 · have H := of_true H hb3
   refine W.rg env [2, 3] [2] ?_
   refine W.ret ?_
   refine At.rthen ?_
   cases H
   exact At.ret env.ty rfl rfl (fun q hq => by cases hq) (.refl _) hval
 · have H := of_false H hb3
   refine W.skip ?_
   refine At.thenC ?_
   refine W.seq ?_
   obtain ⟨y4, hy5, H⟩ := of_bindO H
   obtain ⟨hc6, H⟩ := of_must H
   obtain ⟨y7, hy8, H⟩ := of_bindO H
   obtain ⟨y9, hy10, H⟩ := of_bindO H
   obtain ⟨hc11, H⟩ := of_must H
   obtain ⟨y12, hy13, H⟩ := of_bindO H
   refine W.region env [] [⟨.po y4.isSome [roL 4 enc_Task ((y4.getD default).Crew.Tasks), roL 1 enc_ListRange ((y4.getD default).Crew.Travel), roL 3 enc_Hand ((y4.getD default).Crew.Hands), roL 1 enc_Int ((y4.getD default).next)], [], 0, []⟩, ⟨.int .i64 (y7), [], 0, []⟩, ⟨.po y9.isSome [roL 4 enc_Task ((y9.getD default).Crew.Tasks), roL 1 enc_ListRange ((y9.getD default).Crew.Travel), roL 3 enc_Hand ((y9.getD default).Crew.Hands), roL 1 enc_Int ((y9.getD default).next)], [], 0, []⟩, ⟨.int .i64 (y12), [], 0, []⟩] rfl rfl (by kernel_rfl) .nil (.free (c_crew_newPlan p0 (fun x0 => some (crew_least x0)) 63 [] [] (fun x0 r h => by cases h; exact c_crew_least x0) hy5) (.free (Ctr.sim (.cons (Sim.rp_po hc6) .nil) (c_crew_plan__count fuel (y4.getD default) hy8)) (.free (c_crew_newPlan p0 (fun x0 => some (crew_most x0)) 46 [] [] (fun x0 r h => by cases h; exact c_crew_most x0) hy10) (.free (Ctr.sim (.cons (Sim.rp_po hc11) .nil) (c_crew_plan__count fuel (y9.getD default) hy13)) .nil)))) (At.keep (ts := [2, 3]) (ids := [2]) rfl rfl ?_)
   refine At.thenC ?_
   refine W.ret ?_
   cases H
   exact At.ret env.ty rfl rfl (fun q hq => by cases hq) (.refl _) hval
theorem c_gasolierref04_Copy (p0 : Crew) {r : Crew} (H : gasolierref04_Copy p0 = some r) : Ctr Try.prog 43 [.agg [roL 4 enc_Task p0.Tasks, roL 1 enc_ListRange p0.Travel, roL 3 enc_Hand p0.Hands]] (.agg [roL 4 enc_Task r.Tasks, roL 1 enc_ListRange r.Travel, roL 3 enc_Hand r.Hands]) := by
 unfold gasolierref04_Copy at H
 refine Ctr.of_body (N := 32) Try.func43 (by kernel_rfl) (c := _) rfl Try.ntmps43 rfl (fun w0 h0 hval => ?_)
 refine W.rg env [1, 2] [1, 2] ?_
 refine W.seq ?_
 obtain ⟨hc1, H⟩ := of_must H
 obtain ⟨hc2, H⟩ := of_must H
 refine W.region env [6, 10] [] rfl rfl (by first | rfl | kernel_rfl) (.cons (⟨by first | rfl | (simp; done) | omega | (simp; omega), by have := hc1; first | simpa using this | (unfold room at this ⊢; simp at this ⊢; omega)⟩) (.cons (⟨by first | rfl | (simp; done) | omega | (simp; omega), by have := hc2; first | simpa using this | (unfold room at this ⊢; simp at this ⊢; omega)⟩) .nil)) .nil (At.keep (ts := [1, 2, 3]) (ids := [1, 2, 3, 6, 10]) rfl rfl ?_)
 refine At.convM (.cons (.refl _) (.cons (.refl _) (.cons (.refl _) (.cons (y := bufL 67 4 enc_Task (([] : List Task) ++ p0.Tasks)) (BSim.seg (Seg.push (Seg.lit (f := enc_Task) (sz := 4) ([] : List Task) rfl rfl (fun _ => rfl)) (Seg.refl enc_Task p0.Tasks))) (.cons (y := bufL 59 3 enc_Hand (([] : List Hand) ++ p0.Hands)) (BSim.seg (Seg.push (Seg.lit (f := enc_Hand) (sz := 3) ([] : List Hand) rfl rfl (fun _ => rfl)) (Seg.refl enc_Hand p0.Hands))) .nil))))) ?_
 refine At.thenC ?_
 refine W.seq ?_
 refine W.rg env [2, 3, 16, 17, 18] [2, 3, 6, 10] ?_
 refine W.block ?_
 refine At.nilOwnCell 3 1 751 71 1 (e := fun i => enc_ListRange (([] : List (List Range)).getD i default)) rfl rfl rfl ?_
 refine At.keep (ts := [2, 3, 16, 17, 18]) (ids := [2, 3, 6, 10, 751]) rfl rfl ?_
 refine W.len (t := 16) rfl (fun (hn3 : p0.Travel.length ≤ maxLen) => ?_)
 refine W.rangeGo H (fun i3 (s3 : (List (List Range))) => [(2, .lp 2 0), (3, .lp 3 0), (16, roL 1 enc_ListRange p0.Travel), (17, .int .i64 (((p0.Travel.length : Nat) : Int))), (18, .int .i64 ((i3 : Int)))]) (fun i3 (s3 : (List (List Range))) => [(2, .cells [.nilS, .nilS, .nilS]), (3, .cells [.buf 6 ((([] : List Task) ++ p0.Tasks)).length, .buf 751 (s3).length, .buf 10 ((([] : List Hand) ++ p0.Hands)).length]), (6, bufL 67 4 enc_Task (([] : List Task) ++ p0.Tasks)), (10, bufL 59 3 enc_Hand (([] : List Hand) ++ p0.Hands)), (751, bufL 71 1 enc_ListRange s3)]) (.cons .q (.cons .q (.cons .q (.cons .qi (.cons .qi .nil))))) (.cons .q (.cons (BSim.cells (.cons .qc (.cons .qc (.cons .qc .nil)))) (.cons .q (.cons .q (.cons .q .nil))))) (fun k3 i3 s3 hle3 H1 H2 K0 hK3 => ?_)
 refine W.rg env [2, 3, 16, 17, 18, 19] [2, 3, 6, 10, 751] ?_
 refine W.seq ?_
 refine W.cond rfl (fun hb4 => ?_) (fun hb4 => ?_)
 · have hi3 : i3 < p0.Travel.length := by have := of_decide_eq_true hb4; omega
   have H := H1 hi3
   refine W.skip ?_
   refine At.thenC ?_
   refine W.seq ?_
   refine W.block ?_
   refine W.sr env [] [] [2, 3, 5, 16, 17, 18] [2, 3, 6, 10, 751] rfl rfl rfl (.cons (⟨by omega, by omega⟩ : 0 ≤ (i3 : Int) ∧ (i3 : Int) < ((p0.Travel.length : Nat) : Int)) .nil) .nil ?_
   obtain ⟨hc5, H⟩ := of_must H
   obtain ⟨hc6, H⟩ := of_must H
   refine W.region env [24, 16777242] [] rfl rfl (by first | rfl | kernel_rfl) (.cons (⟨(by first | rfl | (simp; done) | omega | (simp; omega)), (⟨by first | rfl | (simp; done) | omega | (simp; omega), by have := hc5; first | simpa using this | (unfold room at this ⊢; simp at this ⊢; omega)⟩)⟩) (.cons (⟨by first | rfl | (simp; done) | omega | (simp; omega), by have := hc6; first | simpa using this | (unfold room at this ⊢; simp at this ⊢; omega)⟩) .nil)) .nil (At.keep (ts := [2, 3, 16, 17, 18]) (ids := [2, 3, 6, 10, 751]) rfl rfl ?_)
   refine At.convM (.cons (.refl _) (.cons (.refl _) (.cons (.refl _) (.cons (.refl _) (.cons (y := bufL 71 1 enc_ListRange (s3 ++ ([(([] : List Range) ++ (p0.Travel.getD i3 default))] : List (List Range)))) (BSim.pushS (f := enc_ListRange) (sz := 1) (Seg.refl enc_ListRange _) ([(([] : List Range) ++ (p0.Travel.getD i3 default))] : List (List Range)) (.cons (Sim.seg (Seg.push (Seg.lit (f := enc_Range) (sz := 2) ([] : List Range) rfl rfl (fun _ => rfl)) (Seg.refl enc_Range (p0.Travel.getD i3 default)))) .nil) rfl rfl (fun _ => rfl)) .nil))))) ?_
   refine At.inb ?_
   refine At.thenC ?_
   refine W.region env [] [] rfl rfl rfl (.cons (by unfold inI; have := hn3; (try unfold maxLen at this); omega) .nil) .nil (At.keep (ts := [2, 3, 16, 17, 18]) (ids := [2, 3, 6, 10, 751]) rfl rfl ?_)
   refine At.thenK (At.keep (ts := [2, 3, 16, 17, 18]) (ids := [2, 3, 6, 10, 751]) rfl rfl ?_)
   exact At.conv (.cons .q (.cons .q (.cons .q (.cons .qi (.cons .qi .nil))))) (.cons .q (.cons (BSim.cells (.cons .qc (.cons .qc (.cons .qc .nil)))) (.cons .q (.cons .q (.cons .q .nil))))) (hK3 hi3 (s3 ++ ([(([] : List Range) ++ (p0.Travel.getD i3 default))] : List (List Range))) H)
 · have H := H2 (by have := of_decide_eq_false hb4; omega)
   refine W.exit ?_
   refine At.xthen ?_
   refine At.xthen ?_
   refine At.xhere ?_
   refine At.thenC ?_
   refine W.rg env [2] [2, 6, 10, 751] ?_
   refine W.ret ?_
   cases H
   exact At.ret env.ty rfl rfl (fun q hq => by cases hq; exact ⟨by first | rfl | (simp; done) | omega | (simp; omega), ⟨by first | rfl | (simp; done) | omega | (simp; omega), (by first | rfl | (simp; done) | omega | (simp; omega))⟩⟩) (.refl _) hval
theorem co_gasolierref04_Copy_o0_1g_2 (p0 : Crew) {r : Crew} (H : gasolierref04_Copy p0 = some r) : CtrO Try.prog 43 [.agg [roL 4 enc_Task p0.Tasks, roL 1 enc_ListRange p0.Travel, roL 3 enc_Hand p0.Hands]] [] (.agg [.buf 940 (r.Tasks).length, .gb 941 (r.Travel).length, .buf 942 (r.Hands).length]) [(940, bufL 67 4 enc_Task r.Tasks), (941, gridL 71 49 2 enc_Range r.Travel), (942, bufL 59 3 enc_Hand r.Hands)] := by
 unfold gasolierref04_Copy at H
 refine CtrO.of_body (N := 32) Try.func43 (by kernel_rfl) (c := _) rfl Try.ntmps43 rfl (fun w0 h0 ρb hval hdom => ?_)
 refine W.rg env [1, 2] [1, 2] ?_
 refine W.seq ?_
 obtain ⟨hc1, H⟩ := of_must H
 obtain ⟨hc2, H⟩ := of_must H
 refine W.region env [6, 10] [] rfl rfl (by first | rfl | kernel_rfl) (.cons (⟨by first | rfl | (simp; done) | omega | (simp; omega), by have := hc1; first | simpa using this | (unfold room at this ⊢; simp at this ⊢; omega)⟩) (.cons (⟨by first | rfl | (simp; done) | omega | (simp; omega), by have := hc2; first | simpa using this | (unfold room at this ⊢; simp at this ⊢; omega)⟩) .nil)) .nil (At.keep (ts := [1, 2, 3]) (ids := [1, 2, 3, 6, 10]) rfl rfl ?_)
 refine At.convM (.cons (.refl _) (.cons (.refl _) (.cons (.refl _) (.cons (y := bufL 67 4 enc_Task (([] : List Task) ++ p0.Tasks)) (BSim.seg (Seg.push (Seg.lit (f := enc_Task) (sz := 4) ([] : List Task) rfl rfl (fun _ => rfl)) (Seg.refl enc_Task p0.Tasks))) (.cons (y := bufL 59 3 enc_Hand (([] : List Hand) ++ p0.Hands)) (BSim.seg (Seg.push (Seg.lit (f := enc_Hand) (sz := 3) ([] : List Hand) rfl rfl (fun _ => rfl)) (Seg.refl enc_Hand p0.Hands))) .nil))))) ?_
 refine At.thenC ?_
 refine W.seq ?_
 refine W.rg env [2, 3, 16, 17, 18] [2, 3, 6, 10] ?_
 refine W.block ?_
 refine At.nilOwnCellG 3 1 751 71 49 2 (e := fun i j => enc_Range ((([] : List (List Range)).getD i []).getD j default)) (m := fun i => (([] : List (List Range)).getD i []).length) rfl rfl rfl ?_
 refine At.keep (ts := [2, 3, 16, 17, 18]) (ids := [2, 3, 6, 10, 751]) rfl rfl ?_
 refine W.len (t := 16) rfl (fun (hn3 : p0.Travel.length ≤ maxLen) => ?_)
 refine W.rangeGo H (fun i3 (s3 : (List (List Range))) => [(2, .lp 2 0), (3, .lp 3 0), (16, roL 1 enc_ListRange p0.Travel), (17, .int .i64 (((p0.Travel.length : Nat) : Int))), (18, .int .i64 ((i3 : Int)))]) (fun i3 (s3 : (List (List Range))) => [(2, .cells [.nilS, .nilS, .nilS]), (3, .cells [.buf 6 ((([] : List Task) ++ p0.Tasks)).length, .gb 751 (s3).length, .buf 10 ((([] : List Hand) ++ p0.Hands)).length]), (6, bufL 67 4 enc_Task (([] : List Task) ++ p0.Tasks)), (10, bufL 59 3 enc_Hand (([] : List Hand) ++ p0.Hands)), (751, gridL 71 49 2 enc_Range s3)]) (.cons .q (.cons .q (.cons .q (.cons .qi (.cons .qi .nil))))) (.cons .q (.cons (BSim.cells (.cons .qc (.cons (.of_eq (by refine gbEq ?_; first | rfl | (simp; done) | omega | (simp; omega))) (.cons .qc .nil)))) (.cons .q (.cons .q (.cons .q .nil))))) (fun k3 i3 s3 hle3 H1 H2 K0 hK3 => ?_)
 refine W.rg env [2, 3, 16, 17, 18, 19] [2, 3, 6, 10, 751] ?_
 refine W.seq ?_
 refine W.cond rfl (fun hb4 => ?_) (fun hb4 => ?_)
 · have hi3 : i3 < p0.Travel.length := by have := of_decide_eq_true hb4; omega
   have H := H1 hi3
   refine W.skip ?_
   refine At.thenC ?_
   refine W.seq ?_
   refine W.block ?_
   refine W.sr env [] [] [2, 3, 5, 16, 17, 18] [2, 3, 6, 10, 751] rfl rfl rfl (.cons (⟨by omega, by omega⟩ : 0 ≤ (i3 : Int) ∧ (i3 : Int) < ((p0.Travel.length : Nat) : Int)) .nil) .nil ?_
   obtain ⟨hc5, H⟩ := of_must H
   obtain ⟨hc6, H⟩ := of_must H
   refine W.region env [24, 27] [] rfl rfl (by first | rfl | kernel_rfl) (.cons (⟨by first | rfl | (simp; done) | omega | (simp; omega), by have := hc5; first | simpa using this | (unfold room at this ⊢; simp at this ⊢; omega)⟩) (.cons (by first | rfl | (simp; done) | omega | (simp; omega)) (.cons (⟨by first | rfl | (simp; done) | omega | (simp; omega), by first | rfl | (simp; done) | omega | (simp; omega), by simp, by have := hc6; first | simpa using this | (unfold room at this ⊢; simp at this ⊢; omega)⟩) .nil))) .nil (At.keep (ts := [2, 3, 16, 17, 18]) (ids := [2, 3, 6, 10, 751]) rfl rfl ?_)
   refine At.convM (.cons (.refl _) (.cons (.refl _) (.cons (.refl _) (.cons (.refl _) (.cons (y := gridL 71 49 2 enc_Range (s3 ++ ([(([] : List Range) ++ (p0.Travel.getD i3 default))] : List (List Range)))) (BSim.gseg (GSeg.push (GSeg.refl enc_Range _) (GSeg.one (Seg.push (Seg.lit (f := enc_Range) (sz := 2) ([] : List Range) rfl rfl (fun _ => rfl)) (Seg.refl enc_Range (p0.Travel.getD i3 default)))))) .nil))))) ?_
   refine At.inb ?_
   refine At.thenC ?_
   refine W.region env [] [] rfl rfl rfl (.cons (by unfold inI; have := hn3; (try unfold maxLen at this); omega) .nil) .nil (At.keep (ts := [2, 3, 16, 17, 18]) (ids := [2, 3, 6, 10, 751]) rfl rfl ?_)
   refine At.thenK (At.keep (ts := [2, 3, 16, 17, 18]) (ids := [2, 3, 6, 10, 751]) rfl rfl ?_)
   exact At.conv (.cons .q (.cons .q (.cons .q (.cons .qi (.cons .qi .nil))))) (.cons .q (.cons (BSim.cells (.cons .qc (.cons (.of_eq (by refine gbEq ?_; first | rfl | (simp; done) | omega | (simp; omega))) (.cons .qc .nil)))) (.cons .q (.cons .q (.cons .q .nil))))) (hK3 hi3 (s3 ++ ([(([] : List Range) ++ (p0.Travel.getD i3 default))] : List (List Range))) H)
 · have H := H2 (by have := of_decide_eq_false hb4; omega)
   refine W.exit ?_
   refine At.xthen ?_
   refine At.xthen ?_
   refine At.xhere ?_
   refine At.thenC ?_
   refine W.rg env [2] [2, 6, 10, 751] ?_
   refine W.ret ?_
   cases H
   refine At.ren [(6, 940), (751, 941), (10, 942)] (K := [2, 6, 10, 751]) (ts := [2]) rfl rfl rfl rfl rfl ?_
   exact At.retK env.ty [940, 941, 942] 0 rfl rfl rfl rfl (.cons (.refl _) (.cons (.refl _) (.cons (.refl _) .nil))) (Sim.aggL (.cons .qc (.cons (.of_eq (by refine gbEq ?_; first | rfl | (simp; done) | omega | (simp; omega))) (.cons .qc .nil)))) hval hdom rfl
theorem c_gasolierref04_Quick (p0 : Crew) {r : Crew} (H : gasolierref04_Quick p0 = some r) : Ctr Try.prog 67 [.agg [roL 4 enc_Task p0.Tasks, roL 1 enc_ListRange p0.Travel, roL 3 enc_Hand p0.Hands]] (.agg [roL 4 enc_Task r.Tasks, roL 1 enc_ListRange r.Travel, roL 3 enc_Hand r.Hands]) := by
 unfold gasolierref04_Quick at H
 refine Ctr.of_body (N := 43) Try.func67 (by kernel_rfl) (c := _) rfl Try.ntmps67 rfl (fun w0 h0 hval => ?_)
 refine W.rg env [1, 2] [1, 2] ?_
 refine W.seq ?_
 obtain ⟨y1, hy2, H⟩ := of_bindO H
 refine W.region env [] [⟨.agg [.buf 940 (y1.Tasks).length, .gb 941 (y1.Travel).length, .buf 942 (y1.Hands).length], [(940, bufL 67 4 enc_Task y1.Tasks), (941, gridL 71 49 2 enc_Range y1.Travel), (942, bufL 59 3 enc_Hand y1.Hands)], 8000, []⟩] rfl rfl (by kernel_rfl) .nil (.free ((Ctr.ofO (co_gasolierref04_Copy_o0_1g_2 p0 hy2))) .nil) (At.keep (ts := [2, 3]) (ids := [2, 3, 8940, 8941, 8942]) rfl rfl ?_)
 refine At.thenC ?_
 refine W.seq ?_
 refine W.sr env [] [] [2, 3, 10, 11] [2, 3, 8940, 8941, 8942] rfl rfl rfl (.cons (by first | rfl | (simp; done) | omega | (simp; omega)) .nil) .nil ?_
 refine W.block ?_
 refine At.keep (ts := [2, 3, 10, 11]) (ids := [2, 3, 8940, 8941, 8942]) rfl rfl ?_
 obtain ⟨hn3, H⟩ := of_must H
 refine W.rangeGo H (fun i3 (s3 : (List (List Range))) => [(2, .lp 2 0), (3, .lp 3 0), (10, .int .i64 (((y1.Travel.length : Nat) : Int))), (11, .int .i64 ((i3 : Int)))]) (fun i3 (s3 : (List (List Range))) => [(2, .cells [.nilS, .nilS, .nilS]), (3, .cells [.buf 8940 (y1.Tasks).length, .gb 8941 (s3).length, .buf 8942 (y1.Hands).length]), (8940, bufL 67 4 enc_Task y1.Tasks), (8941, gridL 71 49 2 enc_Range s3), (8942, bufL 59 3 enc_Hand y1.Hands)]) (.cons .q (.cons .q (.cons .qi (.cons .qi .nil)))) (.cons .q (.cons (BSim.cells (.cons .qc (.cons (.of_eq (by refine gbEq ?_; first | rfl | (simp; done) | omega | (simp; omega))) (.cons .qc .nil)))) (.cons .q (.cons .q (.cons .q .nil))))) (fun k3 i3 s3 hle3 H1 H2 K0 hK3 => ?_)
 refine W.rg env [2, 3, 10, 11, 12] [2, 3, 8940, 8941, 8942] ?_
 refine W.seq ?_
 refine W.cond rfl (fun hb4 => ?_) (fun hb4 => ?_)
 · have hi3 : i3 < y1.Travel.length := by have := of_decide_eq_true hb4; omega
   have H := H1 hi3
   refine W.skip ?_
   refine At.thenC ?_
   refine W.seq ?_
   refine W.block ?_
   refine W.rg env [2, 3, 4, 10, 11] [2, 3, 8940, 8941, 8942] ?_
   obtain ⟨hc5, H⟩ := of_must H
   refine W.sr env [] [] [2, 3, 4, 10, 11, 19, 20] [2, 3, 8940, 8941, 8942] rfl rfl rfl (.cons (⟨by first | rfl | (simp; done) | omega | (simp; omega), hc5⟩) (.cons (⟨by first | rfl | (simp; done) | omega | (simp; omega), (by have := hc5; first | omega | (simp at this ⊢; omega))⟩) (.cons (⟨by first | rfl | (simp; done) | omega | (simp; omega), (by have := hc5; first | omega | (simp at this ⊢; omega))⟩) .nil))) .nil ?_
   refine W.block ?_
   refine At.keep (ts := [2, 3, 4, 10, 11, 19, 20]) (ids := [2, 3, 8940, 8941, 8942]) rfl rfl ?_
   obtain ⟨hn6, H⟩ := of_must H
   refine W.rangeGo H (fun i6 (s6 : (List (List Range))) => [(2, .lp 2 0), (3, .lp 3 0), (4, .int .i64 ((i3 : Int))), (10, .int .i64 (((y1.Travel.length : Nat) : Int))), (11, .int .i64 ((i3 : Int))), (19, .int .i64 (((((s3.getD i3 []).length) : Nat) : Int))), (20, .int .i64 ((i6 : Int)))]) (fun i6 (s6 : (List (List Range))) => [(2, .cells [.nilS, .nilS, .nilS]), (3, .cells [.buf 8940 (y1.Tasks).length, .gb 8941 (s6).length, .buf 8942 (y1.Hands).length]), (8940, bufL 67 4 enc_Task y1.Tasks), (8941, gridL 71 49 2 enc_Range s6), (8942, bufL 59 3 enc_Hand y1.Hands)]) (.cons .q (.cons .q (.cons .qi (.cons .qi (.cons .qi (.cons .qi (.cons .qi .nil))))))) (.cons .q (.cons (BSim.cells (.cons .qc (.cons (.of_eq (by refine gbEq ?_; first | rfl | (simp; done) | omega | (simp; omega))) (.cons .qc .nil)))) (.cons .q (.cons .q (.cons .q .nil))))) (fun k6 i6 s6 hle6 H1 H2 K0 hK6 => ?_)
   refine W.rg env [2, 3, 4, 10, 11, 19, 20, 21] [2, 3, 8940, 8941, 8942] ?_
   refine W.seq ?_
   refine W.cond rfl (fun hb7 => ?_) (fun hb7 => ?_)
   · have hi6 : i6 < ((s3.getD i3 []).length) := by have := of_decide_eq_true hb7; omega
     have H := H1 hi6
     refine W.skip ?_
     refine At.thenC ?_
     refine W.seq ?_
     refine W.block ?_
     refine W.rg env [2, 3, 4, 5, 10, 11, 19, 20] [2, 3, 8940, 8941, 8942] ?_
     obtain ⟨hc8, H⟩ := of_must H
     obtain ⟨hc9, H⟩ := of_must H
     obtain ⟨hc10, H⟩ := of_must H
     obtain ⟨hc11, H⟩ := of_must H
     refine W.region env [] [] rfl rfl (by first | rfl | kernel_rfl) (.cons (⟨by first | rfl | (simp; done) | omega | (simp; omega), hc8⟩) (.cons (⟨by first | rfl | (simp; done) | omega | (simp; omega), (by have := hc8; first | omega | (simp at this ⊢; omega))⟩) (.cons (⟨by first | rfl | (simp; done) | omega | (simp; omega), hc9⟩) (.cons (⟨by first | rfl | (simp; done) | omega | (simp; omega), (by have := hc9; first | omega | (simp at this ⊢; omega))⟩) (.cons (⟨by first | rfl | (simp; done) | omega | (simp; omega), (by have := hc9; first | omega | (simp at this ⊢; omega)), hc10⟩) (.cons (⟨by first | rfl | (simp; done) | omega | (simp; omega), (by have := hc9; first | omega | (simp at this ⊢; omega)), (by have := hc10; first | omega | (simp at this ⊢; omega))⟩) (.cons (⟨by first | rfl | (simp; done) | omega | (simp; omega), (by have := hc8; first | omega | (simp at this ⊢; omega)), hc11⟩) (.cons (⟨by first | rfl | (simp; done) | omega | (simp; omega), (by have := hc8; first | omega | (simp at this ⊢; omega)), (by have := hc11; first | omega | (simp at this ⊢; omega))⟩) .nil)))))))) .nil (At.keep (ts := [2, 3, 4, 10, 11, 19, 20]) (ids := [2, 3, 8940, 8941, 8942]) rfl rfl ?_)
     refine At.convM (.cons (.refl _) (.cons (.refl _) (.cons (.refl _) (.cons (y := gridL 71 49 2 enc_Range (s6.set i3 ((s6.getD i3 []).set i6 (⟨((s6.getD i3 []).getD i6 default).Lo, ((s6.getD i3 []).getD i6 default).Lo⟩ : Range)))) (BSim.gseg (GSeg.setAt (i := i3) (j := i6) (GSeg.refl enc_Range _) (⟨((s6.getD i3 []).getD i6 default).Lo, ((s6.getD i3 []).getD i6 default).Lo⟩ : Range) rfl)) (.cons (.refl _) .nil))))) ?_
     refine At.inb ?_
     refine At.thenC ?_
     refine W.region env [] [] rfl rfl rfl (.cons (by unfold inI; have := hn6; (try unfold maxLen at this); omega) .nil) .nil (At.keep (ts := [2, 3, 4, 10, 11, 19, 20]) (ids := [2, 3, 8940, 8941, 8942]) rfl rfl ?_)
     refine At.thenK (At.keep (ts := [2, 3, 4, 10, 11, 19, 20]) (ids := [2, 3, 8940, 8941, 8942]) rfl rfl ?_)
     exact At.conv (.cons .q (.cons .q (.cons .qi (.cons .qi (.cons .qi (.cons .qi (.cons .qi .nil))))))) (.cons .q (.cons (BSim.cells (.cons .qc (.cons (.of_eq (by refine gbEq ?_; first | rfl | (simp; done) | omega | (simp; omega))) (.cons .qc .nil)))) (.cons .q (.cons .q (.cons .q .nil))))) (hK6 hi6 (s6.set i3 ((s6.getD i3 []).set i6 (⟨((s6.getD i3 []).getD i6 default).Lo, ((s6.getD i3 []).getD i6 default).Lo⟩ : Range))) H)
   · have H := H2 (by have := of_decide_eq_false hb7; omega)
     refine W.exit ?_
     refine At.xthen ?_
     refine At.xthen ?_
     refine At.xhere ?_
     refine At.inb ?_
     refine At.thenC ?_
     refine W.region env [] [] rfl rfl rfl (.cons (by unfold inI; have := hn3; (try unfold maxLen at this); omega) .nil) .nil (At.keep (ts := [2, 3, 10, 11]) (ids := [2, 3, 8940, 8941, 8942]) rfl rfl ?_)
     refine At.thenK (At.keep (ts := [2, 3, 10, 11]) (ids := [2, 3, 8940, 8941, 8942]) rfl rfl ?_)
     exact At.conv (.cons .q (.cons .q (.cons .qi (.cons .qi .nil)))) (.cons .q (.cons (BSim.cells (.cons .qc (.cons (.of_eq (by refine gbEq ?_; first | rfl | (simp; done) | omega | (simp; omega))) (.cons .qc .nil)))) (.cons .q (.cons .q (.cons .q .nil))))) (hK3 hi3 s6 H)
 · have H := H2 (by have := of_decide_eq_false hb4; omega)
   refine W.exit ?_
   refine At.xthen ?_
   refine At.xthen ?_
   refine At.xhere ?_
   refine At.thenC ?_
   refine W.rg env [2] [2, 8940, 8941, 8942] ?_
   refine W.ret ?_
   cases H
   exact At.ret env.ty rfl rfl (fun q hq => by cases hq; exact ⟨by first | rfl | (simp; done) | omega | (simp; omega), ⟨by first | rfl | (simp; done) | omega | (simp; omega), (by first | rfl | (simp; done) | omega | (simp; omega))⟩⟩) (.refl _) hval
theorem c_gasolierref04_Bounds (fuel : Nat) (p0 : Crew) {r : (Range × Int)} (H : gasolierref04_Bounds fuel p0 = some r) : Ctr Try.prog 25 [.agg [roL 4 enc_Task p0.Tasks, roL 1 enc_ListRange p0.Travel, roL 3 enc_Hand p0.Hands]] (.tup [.agg [.int .i64 (r.1.Lo), .int .i64 (r.1.Hi)], .int .i64 (r.2)]) := by
 unfold gasolierref04_Bounds at H
 refine Ctr.of_body (N := 17) Try.func25 (by kernel_rfl) (c := _) rfl Try.ntmps25 rfl (fun w0 h0 hval => ?_)
 refine W.rg env [1, 2] [1, 2] ?_
 refine W.seq ?_
 refine W.seq ?_
 obtain ⟨y1, hy2, H⟩ := of_bindO H
 refine W.region env [] [⟨.int .i64 (y1), [], 0, []⟩] rfl rfl rfl .nil (.free (c_gasolierref04_Check p0 hy2) .nil) (At.keep (ts := [1, 2, 4]) (ids := [1, 2]) rfl rfl ?_)
 refine At.thenC ?_
 refine W.rg env [1, 2, 4, 8] [1, 2] ?_
 refine W.cond rfl (fun hb3 => ?_) (fun hb3 => ?_)
 · have H := of_true H hb3
   refine W.rg env [2, 3] [2] ?_
   refine W.ret ?_
   refine At.rthen ?_
   cases H
   exact At.ret env.ty rfl rfl (fun q hq => by cases hq) (.refl _) hval
 · have H := of_false H hb3
   refine W.skip ?_
   refine At.thenC ?_
   refine W.seq ?_
   obtain ⟨y4, hy5, H⟩ := of_bindO H
   obtain ⟨y6, hy7, H⟩ := of_bindO H
   obtain ⟨y8, hy9, H⟩ := of_bindO H
   refine W.region env [] [⟨.agg [roL 4 enc_Task y4.Tasks, roL 1 enc_ListRange y4.Travel, roL 3 enc_Hand y4.Hands], [], 0, []⟩, ⟨.int .i64 (y6), [], 0, []⟩, ⟨.int .i64 (y8), [], 0, []⟩] rfl rfl (by kernel_rfl) .nil (.free (c_gasolierref04_Quick p0 hy5) (.free (c_gasolierref04_count fuel y4 hy7) (.free (c_gasolierref04_count fuel p0 hy9) .nil))) (At.keep (ts := [2, 3]) (ids := [2]) rfl rfl ?_)
   refine At.thenC ?_
   refine W.ret ?_
   cases H
   exact At.ret env.ty rfl rfl (fun q hq => by cases hq) (.refl _) hval
theorem c_crew_plan__isRound (p0 : crew_plan) (p1 : (List Int)) {r : Bool} (H : crew_plan__isRound p0 p1 = some r) : Ctr Try.prog 102 [.rp [roL 4 enc_Task p0.Crew.Tasks, roL 1 enc_ListRange p0.Crew.Travel, roL 3 enc_Hand p0.Crew.Hands, roL 1 enc_Int p0.next], roL 1 enc_Int p1] (.bool (r)) := by
 unfold crew_plan__isRound at H
 refine Ctr.of_body (N := 48) Try.func102 (by kernel_rfl) (c := _) rfl Try.ntmps102 rfl (fun w0 h0 hval => ?_)
 refine W.rg env [0, 1] [] ?_
 refine W.seq ?_
 refine W.rg env [0, 1, 7, 8, 9] [] ?_
 refine W.block ?_
 refine At.keep (ts := [0, 1, 7, 8, 9]) (ids := []) rfl rfl ?_
 refine W.len (t := 7) rfl (fun (hn1 : p1.length ≤ maxLen) => ?_)
 refine W.rangeGo H (fun i1 (s1 : Unit) => [(0, .rp [roL 4 enc_Task p0.Crew.Tasks, roL 1 enc_ListRange p0.Crew.Travel, roL 3 enc_Hand p0.Crew.Hands, roL 1 enc_Int p0.next]), (1, roL 1 enc_Int p1), (7, roL 1 enc_Int p1), (8, .int .i64 (((p1.length : Nat) : Int))), (9, .int .i64 ((i1 : Int)))]) (fun i1 (s1 : Unit) => []) (.cons .q (.cons .q (.cons .q (.cons .qi (.cons .qi .nil))))) .nil (fun k1 i1 s1 hle1 H1 H2 K0 hK1 => ?_)
 refine W.rg env [0, 1, 7, 8, 9, 10] [] ?_
 refine W.seq ?_
 refine W.cond rfl (fun hb2 => ?_) (fun hb2 => ?_)
 · have hi1 : i1 < p1.length := by have := of_decide_eq_true hb2; omega
   have H := H1 hi1
   refine W.skip ?_
   refine At.thenC ?_
   refine W.seq ?_
   refine W.block ?_
   refine W.sr env [] [] [0, 1, 5, 6, 7, 8, 9] [] rfl rfl rfl (.cons (⟨by omega, by omega⟩ : 0 ≤ (i1 : Int) ∧ (i1 : Int) < ((p1.length : Nat) : Int)) .nil) .nil ?_
   obtain ⟨hc3, H⟩ := of_must H
   obtain ⟨hc4, H⟩ := of_must H
   obtain ⟨hc5, H⟩ := of_must H
   obtain ⟨hc6, H⟩ := of_must H
   obtain ⟨hc7, H⟩ := of_must H
   obtain ⟨hc8, H⟩ := of_must H
   refine W.sr env [] [⟨.bool ((crew_in (p1.getD i1 default) 0 (((p0.next.length : Nat) : Int) - 1))), [], 0, []⟩] [0, 1, 7, 8, 9, 43] [] rfl rfl (by kernel_rfl) (.cons hc3 (.cons (fun h => h) (.cons (fun h => h) (.cons (fun h => h) (.cons (fun h => h) (.cons (fun h => h) (.cons hc4 (.cons (fun h => h) (.cons hc5 (.cons (fun h => h) (.cons (fun h => h) (.cons (fun h => h) (.cons hc6 (.cons (fun h => h) (.cons (fun h => h) (.cons (fun h => h) (.cons hc7 (.cons (fun h => h) (.cons (fun h => h) (.cons hc8 (.cons (fun h => h) (.cons (fun h => h) (.cons (fun h => h) (.cons (fun hW h => by revert hW h; first | (simp +contextual; done) | grind) (.cons (fun h => by rw [h]; rfl) .nil))))))))))))))))))))))))) (.free (c_crew_in (p1.getD i1 default) 0 (((p0.next.length : Nat) : Int) - 1)) .nil) ?_
   refine W.cond rfl (fun hb9 => ?_) (fun hb9 => ?_)
   · have H := of_true H hb9
     refine W.rg env [4] [] ?_
     refine W.ret ?_
     refine At.rinb ?_
     refine At.rthen ?_
     refine At.rthen ?_
     refine At.rinb ?_
     refine At.rthen ?_
     cases H
     exact At.ret env.ty rfl rfl (fun q hq => by cases hq) (.refl _) hval
   · have H := of_false H hb9
     refine W.skip ?_
     refine At.inb ?_
     refine At.thenC ?_
     refine W.region env [] [] rfl rfl rfl (.cons (by unfold inI; have := hn1; (try unfold maxLen at this); omega) .nil) .nil (At.keep (ts := [0, 1, 7, 8, 9]) (ids := []) rfl rfl ?_)
     refine At.thenK (At.keep (ts := [0, 1, 7, 8, 9]) (ids := []) rfl rfl ?_)
     exact At.conv (.cons .q (.cons .q (.cons .q (.cons .qi (.cons .qi .nil))))) .nil (hK1 hi1 () H)
 · have H := H2 (by have := of_decide_eq_false hb2; omega)
   refine W.exit ?_
   refine At.xthen ?_
   refine At.xthen ?_
   refine At.xhere ?_
   refine At.thenC ?_
   refine W.rg env [4] [] ?_
   refine W.ret ?_
   cases H
   exact At.ret env.ty rfl rfl (fun q hq => by cases hq) (.refl _) hval
theorem c_crew_plan__areRounds (p0 : crew_plan) (p1 : (List (List Int))) {r : Bool} (H : crew_plan__areRounds p0 p1 = some r) : Ctr Try.prog 91 [.rp [roL 4 enc_Task p0.Crew.Tasks, roL 1 enc_ListRange p0.Crew.Travel, roL 3 enc_Hand p0.Crew.Hands, roL 1 enc_Int p0.next], roL 1 enc_ListInt p1] (.bool (r)) := by
 unfold crew_plan__areRounds at H
 refine Ctr.of_body (N := 64) Try.func91 (by kernel_rfl) (c := _) rfl Try.ntmps91 rfl (fun w0 h0 hval => ?_)
 refine W.rg env [0, 1] [] ?_
 refine W.rg env [0, 1, 5] [] ?_
 refine W.seq ?_
 refine W.rg env [0, 1, 5, 10, 11, 12] [] ?_
 refine W.block ?_
 refine At.keep (ts := [0, 1, 5, 10, 11, 12]) (ids := []) rfl rfl ?_
 refine W.len (t := 10) rfl (fun (hn1 : p1.length ≤ maxLen) => ?_)
 refine W.rangeGo H (fun i1 (s1 : Int) => [(0, .rp [roL 4 enc_Task p0.Crew.Tasks, roL 1 enc_ListRange p0.Crew.Travel, roL 3 enc_Hand p0.Crew.Hands, roL 1 enc_Int p0.next]), (1, roL 1 enc_ListInt p1), (5, .int .i64 (s1)), (10, roL 1 enc_ListInt p1), (11, .int .i64 (((p1.length : Nat) : Int))), (12, .int .i64 ((i1 : Int)))]) (fun i1 (s1 : Int) => []) (.cons .q (.cons .q (.cons .qi (.cons .q (.cons .qi (.cons .qi .nil)))))) .nil (fun k1 i1 s1 hle1 H1 H2 K0 hK1 => ?_)
 refine W.rg env [0, 1, 5, 10, 11, 12, 13] [] ?_
 refine W.seq ?_
 refine W.cond rfl (fun hb2 => ?_) (fun hb2 => ?_)
 · have hi1 : i1 < p1.length := by have := of_decide_eq_true hb2; omega
   have H := H1 hi1
   refine W.skip ?_
   refine At.thenC ?_
   refine W.seq ?_
   refine W.block ?_
   refine W.sr env [] [] [0, 1, 5, 6, 7, 10, 11, 12] [] rfl rfl rfl (.cons (⟨by omega, by omega⟩ : 0 ≤ (i1 : Int) ∧ (i1 : Int) < ((p1.length : Nat) : Int)) .nil) .nil ?_
   refine W.seq ?_
   refine W.seq ?_
   obtain ⟨y3, hy4, H⟩ := of_bindO H
   obtain ⟨hc5, H⟩ := of_must H
   obtain ⟨hc6, H⟩ := of_must H
   obtain ⟨hc7, H⟩ := of_must H
   obtain ⟨hc8, H⟩ := of_must H
   refine W.region env [] [⟨.bool (y3), [], 0, []⟩] rfl rfl (by kernel_rfl) (.cons (fun h => h) (.cons (fun h => h) (.cons hc5 (.cons (fun h => h) (.cons hc6 (.cons (fun h => h) (.cons (fun h => h) (.cons (fun h => h) (.cons hc7 (.cons (fun h => h) (.cons (fun h => h) (.cons hc8 (.cons (fun h => h) (.cons (fun h => h) (.cons (fun h => h) (.cons (fun h => h) (.cons (fun h => h) (.cons (fun hW h => by revert hW h; first | (simp +contextual; done) | grind) (.cons (fun h => by rw [h]; rfl) .nil))))))))))))))))))) (.free (c_crew_plan__isRound p0 (p1.getD i1 default) hy4) .nil) (At.keep (ts := [0, 1, 5, 7, 10, 11, 12, 37]) (ids := []) rfl rfl ?_)
   refine At.thenC ?_
   refine W.cond rfl (fun hb9 => ?_) (fun hb9 => ?_)
   · have H := of_true H hb9
     refine W.rg env [4] [] ?_
     refine W.ret ?_
     refine At.rthen ?_
     refine At.rinb ?_
     refine At.rthen ?_
     refine At.rthen ?_
     refine At.rinb ?_
     refine At.rthen ?_
     cases H
     exact At.ret env.ty rfl rfl (fun q hq => by cases hq) (.refl _) hval
   · have H := of_false H hb9
     refine W.skip ?_
     refine At.thenC ?_
     refine W.rg env [0, 1, 5, 10, 11, 12, 38, 39, 40] [] ?_
     refine W.block ?_
     refine At.keep (ts := [0, 1, 5, 10, 11, 12, 38, 39, 40]) (ids := []) rfl rfl ?_
     refine W.len (t := 38) rfl (fun (hn10 : (p1.getD i1 default).length ≤ maxLen) => ?_)
     refine W.rangeGo H (fun i10 (s10 : Int) => [(0, .rp [roL 4 enc_Task p0.Crew.Tasks, roL 1 enc_ListRange p0.Crew.Travel, roL 3 enc_Hand p0.Crew.Hands, roL 1 enc_Int p0.next]), (1, roL 1 enc_ListInt p1), (5, .int .i64 (s10)), (10, roL 1 enc_ListInt p1), (11, .int .i64 (((p1.length : Nat) : Int))), (12, .int .i64 ((i1 : Int))), (38, roL 1 enc_Int (p1.getD i1 default)), (39, .int .i64 ((((p1.getD i1 default).length : Nat) : Int))), (40, .int .i64 ((i10 : Int)))]) (fun i10 (s10 : Int) => []) (.cons .q (.cons .q (.cons .qi (.cons .q (.cons .qi (.cons .qi (.cons .q (.cons .qi (.cons .qi .nil))))))))) .nil (fun k10 i10 s10 hle10 H1 H2 K0 hK10 => ?_)
     refine W.rg env [0, 1, 5, 10, 11, 12, 38, 39, 40, 41] [] ?_
     refine W.seq ?_
     refine W.cond rfl (fun hb11 => ?_) (fun hb11 => ?_)
     · have hi10 : i10 < (p1.getD i1 default).length := by have := of_decide_eq_true hb11; omega
       have H := H1 hi10
       refine W.skip ?_
       refine At.thenC ?_
       refine W.seq ?_
       refine W.block ?_
       refine W.sr env [] [] [0, 1, 5, 9, 10, 11, 12, 38, 39, 40] [] rfl rfl rfl (.cons (⟨by omega, by omega⟩ : 0 ≤ (i10 : Int) ∧ (i10 : Int) < (((p1.getD i1 default).length : Nat) : Int)) .nil) .nil ?_
       refine W.seq ?_
       obtain ⟨hc12, H⟩ := of_must H
       obtain ⟨hc13, H⟩ := of_must H
       refine W.sr env [] [] [0, 1, 5, 9, 10, 11, 12, 38, 39, 40, 48] [] rfl rfl rfl (.cons hc12 (.cons hc13 .nil)) .nil ?_
       refine W.cond rfl (fun hb14 => ?_) (fun hb14 => ?_)
       · have H := of_true H hb14
         refine W.rg env [4] [] ?_
         refine W.ret ?_
         refine At.rthen ?_
         refine At.rinb ?_
         refine At.rthen ?_
         refine At.rthen ?_
         refine At.rinb ?_
         refine At.rinb ?_
         refine At.rthen ?_
         refine At.rthen ?_
         refine At.rinb ?_
         refine At.rthen ?_
         cases H
         exact At.ret env.ty rfl rfl (fun q hq => by cases hq) (.refl _) hval
       · have H := of_false H hb14
         refine W.skip ?_
         refine At.thenC ?_
         obtain ⟨hc15, H⟩ := of_must H
         obtain ⟨hc16, H⟩ := of_must H
         refine W.region env [] [] rfl rfl rfl (.cons hc15 (.cons hc16 .nil)) .nil (At.keep (ts := [0, 1, 5, 10, 11, 12, 38, 39, 40]) (ids := []) rfl rfl ?_)
         refine At.inb ?_
         refine At.thenC ?_
         refine W.region env [] [] rfl rfl rfl (.cons (by unfold inI; have := hn10; (try unfold maxLen at this); omega) .nil) .nil (At.keep (ts := [0, 1, 5, 10, 11, 12, 38, 39, 40]) (ids := []) rfl rfl ?_)
         refine At.thenK (At.keep (ts := [0, 1, 5, 10, 11, 12, 38, 39, 40]) (ids := []) rfl rfl ?_)
         exact At.conv (.cons .q (.cons .q (.cons .qi (.cons .q (.cons .qi (.cons .qi (.cons .q (.cons .qi (.cons .qi .nil))))))))) .nil (hK10 hi10 (((s10 : Int).toNat ||| (((1 : Int) * 2 ^ (((p1.getD i1 default).getD i10 default) : Int).toNat) : Int).toNat : Nat) : Int) H)
     · have H := H2 (by have := of_decide_eq_false hb11; omega)
       refine W.exit ?_
       refine At.xthen ?_
       refine At.xthen ?_
       refine At.xhere ?_
       refine At.inb ?_
       refine At.thenC ?_
       refine W.region env [] [] rfl rfl rfl (.cons (by unfold inI; have := hn1; (try unfold maxLen at this); omega) .nil) .nil (At.keep (ts := [0, 1, 5, 10, 11, 12]) (ids := []) rfl rfl ?_)
       refine At.thenK (At.keep (ts := [0, 1, 5, 10, 11, 12]) (ids := []) rfl rfl ?_)
       exact At.conv (.cons .q (.cons .q (.cons .qi (.cons .q (.cons .qi (.cons .qi .nil)))))) .nil (hK1 hi1 s10 H)
 · have H := H2 (by have := of_decide_eq_false hb2; omega)
   refine W.exit ?_
   refine At.xthen ?_
   refine At.xthen ?_
   refine At.xhere ?_
   refine At.thenC ?_
   obtain ⟨hc17, H⟩ := of_must H
   obtain ⟨hc18, H⟩ := of_must H
   refine W.sr env [] [] [4] [] rfl rfl rfl (.cons hc17 (.cons hc18 .nil)) .nil ?_
   refine W.ret ?_
   cases H
   exact At.ret env.ty rfl rfl (fun q hq => by cases hq) (.refl _) hval
theorem c_crew_asked (p0 : Crew) (p1 : (List (List Int))) {r : ((Option crew_plan) × Int)} (H : crew_asked p0 p1 = some r) : Ctr Try.prog 44 [.agg [roL 4 enc_Task p0.Tasks, roL 1 enc_ListRange p0.Travel, roL 3 enc_Hand p0.Hands], roL 1 enc_ListInt p1] (.tup [.po r.1.isSome [roL 4 enc_Task ((r.1.getD default).Crew.Tasks), roL 1 enc_ListRange ((r.1.getD default).Crew.Travel), roL 3 enc_Hand ((r.1.getD default).Crew.Hands), roL 1 enc_Int ((r.1.getD default).next)], .int .i64 (r.2)]) := by
 unfold crew_asked at H
 refine Ctr.of_body (N := 20) Try.func44 (by kernel_rfl) (c := _) rfl Try.ntmps44 rfl (fun w0 h0 hval => ?_)
 refine W.rg env [1, 2] [2] ?_
 refine W.seq ?_
 refine W.seq ?_
 obtain ⟨y1, hy2, H⟩ := of_bindO H
 refine W.region env [] [⟨.int .i64 (y1), [], 0, []⟩] rfl rfl rfl .nil (.free (c_crew_Check p0 hy2) .nil) (At.keep (ts := [1, 2, 6]) (ids := [2]) rfl rfl ?_)
 refine At.thenC ?_
 refine W.rg env [1, 2, 6, 11] [2] ?_
 refine W.cond rfl (fun hb3 => ?_) (fun hb3 => ?_)
 · have H := of_true H hb3
   refine W.rg env [4, 5] [] ?_
   refine W.ret ?_
   refine At.rthen ?_
   cases H
   exact At.ret env.ty rfl rfl (fun q hq => by cases hq) (Sim.tupL (.cons (Sim.po_nil rfl) (.cons (.refl _) .nil))) hval
 · have H := of_false H hb3
   refine W.skip ?_
   refine At.thenC ?_
   refine W.seq ?_
   obtain ⟨y4, hy5, H⟩ := of_bindO H
   refine W.region env [] [⟨.po y4.isSome [roL 4 enc_Task ((y4.getD default).Crew.Tasks), roL 1 enc_ListRange ((y4.getD default).Crew.Travel), roL 3 enc_Hand ((y4.getD default).Crew.Hands), roL 1 enc_Int ((y4.getD default).next)], [], 0, []⟩] rfl rfl rfl .nil (.free (c_crew_newPlan p0 (fun x0 => some (crew_most x0)) 46 [] [] (fun x0 r h => by cases h; exact c_crew_most x0) hy5) .nil) (At.keep (ts := [1, 7]) (ids := []) rfl rfl ?_)
   refine At.thenC ?_
   refine W.seq ?_
   refine W.seq ?_
   obtain ⟨hc6, H⟩ := of_must H
   obtain ⟨y7, hy8, H⟩ := of_bindO H
   refine W.region env [] [⟨.bool (y7), [], 0, []⟩] rfl rfl rfl .nil (.free (Ctr.sim (.cons (Sim.rp_po hc6) (.cons (.refl _) .nil)) (c_crew_plan__areRounds (y4.getD default) p1 hy8)) .nil) (At.keep (ts := [7, 18]) (ids := []) rfl rfl ?_)
   refine At.thenC ?_
   refine W.cond rfl (fun hb9 => ?_) (fun hb9 => ?_)
   · have H := of_true H hb9
     refine W.rg env [4, 5] [] ?_
     refine W.ret ?_
     refine At.rthen ?_
     cases H
     exact At.ret env.ty rfl rfl (fun q hq => by cases hq) (Sim.tupL (.cons (Sim.po_nil rfl) (.cons (.refl _) .nil))) hval
   · have H := of_false H hb9
     refine W.skip ?_
     refine At.thenC ?_
     refine W.rg env [4, 5] [] ?_
     refine W.ret ?_
     cases H
     exact At.ret env.ty rfl rfl (fun q hq => by cases hq) (.refl _) hval
theorem c_crew_CheckRounds (p0 : Crew) (p1 : (List (List Int))) {r : Int} (H : crew_CheckRounds p0 p1 = some r) : Ctr Try.prog 26 [.agg [roL 4 enc_Task p0.Tasks, roL 1 enc_ListRange p0.Travel, roL 3 enc_Hand p0.Hands], roL 1 enc_ListInt p1] (.int .i64 (r)) := by
 unfold crew_CheckRounds at H
 refine Ctr.of_body (N := 14) Try.func26 (by kernel_rfl) (c := _) rfl Try.ntmps26 rfl (fun w0 h0 hval => ?_)
 refine W.rg env [1, 2] [2] ?_
 refine W.seq ?_
 obtain ⟨y1, hy2, H⟩ := of_bindO H
 refine W.region env [] [⟨.tup [.po y1.1.isSome [roL 4 enc_Task ((y1.1.getD default).Crew.Tasks), roL 1 enc_ListRange ((y1.1.getD default).Crew.Travel), roL 3 enc_Hand ((y1.1.getD default).Crew.Hands), roL 1 enc_Int ((y1.1.getD default).next)], .int .i64 (y1.2)], [], 0, []⟩] rfl rfl rfl .nil (.free (c_crew_asked p0 p1 hy2) .nil) (At.keep (ts := [6]) (ids := []) rfl rfl ?_)
 refine At.thenC ?_
 refine W.rg env [4] [] ?_
 refine W.ret ?_
 cases H
 exact At.ret env.ty rfl rfl (fun q hq => by cases hq) (.refl _) hval
theorem c_gasolierref04_isRound (p0 : Crew) (p1 : (List Int)) {r : Bool} (H : gasolierref04_isRound p0 p1 = some r) : Ctr Try.prog 60 [.agg [roL 4 enc_Task p0.Tasks, roL 1 enc_ListRange p0.Travel, roL 3 enc_Hand p0.Hands], roL 1 enc_Int p1] (.bool (r)) := by
 unfold gasolierref04_isRound at H
 refine Ctr.of_body (N := 40) Try.func60 (by kernel_rfl) (c := _) rfl Try.ntmps60 rfl (fun w0 h0 hval => ?_)
 refine W.rg env [1, 2] [2] ?_
 refine W.seq ?_
 refine W.rg env [1, 2, 7, 8, 9] [2] ?_
 refine W.block ?_
 refine At.keep (ts := [1, 2, 7, 8, 9]) (ids := [2]) rfl rfl ?_
 refine W.len (t := 7) rfl (fun (hn1 : p1.length ≤ maxLen) => ?_)
 refine W.rangeGo H (fun i1 (s1 : Unit) => [(1, roL 1 enc_Int p1), (2, .lp 2 0), (7, roL 1 enc_Int p1), (8, .int .i64 (((p1.length : Nat) : Int))), (9, .int .i64 ((i1 : Int)))]) (fun i1 (s1 : Unit) => [(2, .cells [roL 4 enc_Task p0.Tasks, roL 1 enc_ListRange p0.Travel, roL 3 enc_Hand p0.Hands])]) (.cons .q (.cons .q (.cons .q (.cons .qi (.cons .qi .nil))))) (.cons .q .nil) (fun k1 i1 s1 hle1 H1 H2 K0 hK1 => ?_)
 refine W.rg env [1, 2, 7, 8, 9, 10] [2] ?_
 refine W.seq ?_
 refine W.cond rfl (fun hb2 => ?_) (fun hb2 => ?_)
 · have hi1 : i1 < p1.length := by have := of_decide_eq_true hb2; omega
   have H := H1 hi1
   refine W.skip ?_
   refine At.thenC ?_
   refine W.seq ?_
   refine W.block ?_
   refine W.sr env [] [] [1, 2, 5, 6, 7, 8, 9] [2] rfl rfl rfl (.cons (⟨by omega, by omega⟩ : 0 ≤ (i1 : Int) ∧ (i1 : Int) < ((p1.length : Nat) : Int)) .nil) .nil ?_
   refine W.seq ?_
   obtain ⟨hc3, H⟩ := of_must H
   obtain ⟨hc4, H⟩ := of_must H
   obtain ⟨hc5, H⟩ := of_must H
   obtain ⟨y6, hy7, H⟩ := of_bindO H
   refine W.region env [] [⟨.bool ((gasolierref01_Within (p1.getD i1 default) 0 (((p0.Tasks.length : Nat) : Int) - 1))), [], 0, []⟩, ⟨.int .i64 (y6), [], 0, []⟩] rfl rfl (by kernel_rfl) (.cons hc3 (.cons (fun h => h) (.cons (fun h => h) (.cons hc4 (.cons (fun h => h) (.cons hc5 (.cons (fun h => h) (.cons (fun h => h) (.cons (fun h => h) (.cons (fun h => h) (.cons (fun h => h) (.cons (fun h => h) (.cons (fun h => h) (.cons (fun h => h) (.cons (fun hW h => by revert hW h; first | (simp +contextual; done) | grind) (.cons (fun h => by rw [h]; rfl) .nil)))))))))))))))) (.free (c_gasolierref01_Within (p1.getD i1 default) 0 (((p0.Tasks.length : Nat) : Int) - 1)) (.on (fun hW => c_gasolierref04_follows p0 (p1.getD (((i1 : Int) - 1)).toNat default) (p1.getD i1 default) (of_true hy7 hW)) .nil)) (At.keep (ts := [1, 2, 7, 8, 9, 35]) (ids := [2]) rfl rfl ?_)
   refine At.thenC ?_
   refine W.cond rfl (fun hb8 => ?_) (fun hb8 => ?_)
   · have H := of_true H hb8
     refine W.rg env [4] [] ?_
     refine W.ret ?_
     refine At.rinb ?_
     refine At.rthen ?_
     refine At.rthen ?_
     refine At.rinb ?_
     refine At.rthen ?_
     cases H
     exact At.ret env.ty rfl rfl (fun q hq => by cases hq) (.refl _) hval
   · have H := of_false H hb8
     refine W.skip ?_
     refine At.inb ?_
     refine At.thenC ?_
     refine W.region env [] [] rfl rfl rfl (.cons (by unfold inI; have := hn1; (try unfold maxLen at this); omega) .nil) .nil (At.keep (ts := [1, 2, 7, 8, 9]) (ids := [2]) rfl rfl ?_)
     refine At.thenK (At.keep (ts := [1, 2, 7, 8, 9]) (ids := [2]) rfl rfl ?_)
     exact At.conv (.cons .q (.cons .q (.cons .q (.cons .qi (.cons .qi .nil))))) (.cons .q .nil) (hK1 hi1 () H)
 · have H := H2 (by have := of_decide_eq_false hb2; omega)
   refine W.exit ?_
   refine At.xthen ?_
   refine At.xthen ?_
   refine At.xhere ?_
   refine At.thenC ?_
   refine W.rg env [4] [] ?_
   refine W.ret ?_
   cases H
   exact At.ret env.ty rfl rfl (fun q hq => by cases hq) (.refl _) hval
theorem c_gasolierref04_CheckRounds (p0 : Crew) (p1 : (List (List Int))) {r : Int} (H : gasolierref04_CheckRounds p0 p1 = some r) : Ctr Try.prog 18 [.agg [roL 4 enc_Task p0.Tasks, roL 1 enc_ListRange p0.Travel, roL 3 enc_Hand p0.Hands], roL 1 enc_ListInt p1] (.int .i64 (r)) := by
 unfold gasolierref04_CheckRounds at H
 refine Ctr.of_body (N := 73) Try.func18 (by kernel_rfl) (c := _) rfl Try.ntmps18 rfl (fun w0 h0 hval => ?_)
 refine W.rg env [1, 2] [2] ?_
 refine W.seq ?_
 refine W.seq ?_
 obtain ⟨y1, hy2, H⟩ := of_bindO H
 refine W.region env [] [⟨.int .i64 (y1), [], 0, []⟩] rfl rfl rfl .nil (.free (c_gasolierref04_Check p0 hy2) .nil) (At.keep (ts := [1, 2, 5]) (ids := [2]) rfl rfl ?_)
 refine At.thenC ?_
 refine W.rg env [1, 2, 5, 16] [2] ?_
 refine W.cond rfl (fun hb3 => ?_) (fun hb3 => ?_)
 · have H := of_true H hb3
   refine W.rg env [4] [] ?_
   refine W.ret ?_
   refine At.rthen ?_
   cases H
   exact At.ret env.ty rfl rfl (fun q hq => by cases hq) (.refl _) hval
 · have H := of_false H hb3
   refine W.skip ?_
   refine At.thenC ?_
   refine W.seq ?_
   obtain ⟨hc4, H⟩ := of_must H
   refine W.region env [] [] rfl rfl rfl (.cons hc4 .nil) .nil (At.keep (ts := [1, 2, 6]) (ids := [2, 21]) rfl rfl ?_)
   refine At.convM (.cons (.refl _) (.cons (y := bufL 3 1 enc_Int (List.replicate (((p0.Tasks.length : Nat) : Int)).toNat (0 : Int))) (BSim.seg (Seg.made (f := enc_Int) 0 rfl)) .nil)) ?_
   refine At.thenC ?_
   refine W.seq ?_
   refine W.rg env [1, 2, 6, 22, 23, 24] [2, 21] ?_
   refine W.block ?_
   refine At.keep (ts := [1, 2, 6, 22, 23, 24]) (ids := [2, 21]) rfl rfl ?_
   refine W.len (t := 22) rfl (fun (hn5 : p1.length ≤ maxLen) => ?_)
   refine W.rangeGo H (fun i5 (s5 : (List Int)) => [(1, roL 1 enc_ListInt p1), (2, .lp 2 0), (6, .buf 21 (s5).length), (22, roL 1 enc_ListInt p1), (23, .int .i64 (((p1.length : Nat) : Int))), (24, .int .i64 ((i5 : Int)))]) (fun i5 (s5 : (List Int)) => [(2, .cells [roL 4 enc_Task p0.Tasks, roL 1 enc_ListRange p0.Travel, roL 3 enc_Hand p0.Hands]), (21, bufL 3 1 enc_Int s5)]) (.cons .q (.cons .q (.cons .qb (.cons .q (.cons .qi (.cons .qi .nil)))))) (.cons .q (.cons .q .nil)) (fun k5 i5 s5 hle5 H1 H2 K0 hK5 => ?_)
   refine W.rg env [1, 2, 6, 22, 23, 24, 25] [2, 21] ?_
   refine W.seq ?_
   refine W.cond rfl (fun hb6 => ?_) (fun hb6 => ?_)
   · have hi5 : i5 < p1.length := by have := of_decide_eq_true hb6; omega
     have H := H1 hi5
     refine W.skip ?_
     refine At.thenC ?_
     refine W.seq ?_
     refine W.block ?_
     refine W.sr env [] [] [1, 2, 6, 7, 8, 22, 23, 24] [2, 21] rfl rfl rfl (.cons (⟨by omega, by omega⟩ : 0 ≤ (i5 : Int) ∧ (i5 : Int) < ((p1.length : Nat) : Int)) .nil) .nil ?_
     refine W.seq ?_
     refine W.seq ?_
     obtain ⟨y7, hy8, H⟩ := of_bindO H
     obtain ⟨hc9, H⟩ := of_must H
     obtain ⟨hc10, H⟩ := of_must H
     obtain ⟨hc11, H⟩ := of_must H
     obtain ⟨hc12, H⟩ := of_must H
     refine W.region env [] [⟨.bool (y7), [], 0, []⟩] rfl rfl (by kernel_rfl) (.cons (fun h => h) (.cons (fun h => h) (.cons hc9 (.cons (fun h => h) (.cons hc10 (.cons (fun h => h) (.cons (fun h => h) (.cons (fun h => h) (.cons hc11 (.cons (fun h => h) (.cons (fun h => h) (.cons hc12 (.cons (fun h => h) (.cons (fun h => h) (.cons (fun h => h) (.cons (fun h => h) (.cons (fun h => h) (.cons (fun hW h => by revert hW h; first | (simp +contextual; done) | grind) (.cons (fun h => by rw [h]; rfl) .nil))))))))))))))))))) (.free (c_gasolierref04_isRound p0 (p1.getD i5 default) hy8) .nil) (At.keep (ts := [1, 2, 6, 8, 22, 23, 24, 49]) (ids := [2, 21]) rfl rfl ?_)
     refine At.thenC ?_
     refine W.cond rfl (fun hb13 => ?_) (fun hb13 => ?_)
     · have H := of_true H hb13
       refine W.rg env [4] [] ?_
       refine W.ret ?_
       refine At.rthen ?_
       refine At.rinb ?_
       refine At.rthen ?_
       refine At.rthen ?_
       refine At.rinb ?_
       refine At.rthen ?_
       cases H
       exact At.ret env.ty rfl rfl (fun q hq => by cases hq) (.refl _) hval
     · have H := of_false H hb13
       refine W.skip ?_
       refine At.thenC ?_
       refine W.rg env [1, 2, 6, 22, 23, 24, 50, 51, 52] [2, 21] ?_
       refine W.block ?_
       refine At.keep (ts := [1, 2, 6, 22, 23, 24, 50, 51, 52]) (ids := [2, 21]) rfl rfl ?_
       refine W.len (t := 50) rfl (fun (hn14 : (p1.getD i5 default).length ≤ maxLen) => ?_)
       refine W.rangeGo H (fun i14 (s14 : (List Int)) => [(1, roL 1 enc_ListInt p1), (2, .lp 2 0), (6, .buf 21 (s14).length), (22, roL 1 enc_ListInt p1), (23, .int .i64 (((p1.length : Nat) : Int))), (24, .int .i64 ((i5 : Int))), (50, roL 1 enc_Int (p1.getD i5 default)), (51, .int .i64 ((((p1.getD i5 default).length : Nat) : Int))), (52, .int .i64 ((i14 : Int)))]) (fun i14 (s14 : (List Int)) => [(2, .cells [roL 4 enc_Task p0.Tasks, roL 1 enc_ListRange p0.Travel, roL 3 enc_Hand p0.Hands]), (21, bufL 3 1 enc_Int s14)]) (.cons .q (.cons .q (.cons .qb (.cons .q (.cons .qi (.cons .qi (.cons .q (.cons .qi (.cons .qi .nil))))))))) (.cons .q (.cons .q .nil)) (fun k14 i14 s14 hle14 H1 H2 K0 hK14 => ?_)
       refine W.rg env [1, 2, 6, 22, 23, 24, 50, 51, 52, 53] [2, 21] ?_
       refine W.seq ?_
       refine W.cond rfl (fun hb15 => ?_) (fun hb15 => ?_)
       · have hi14 : i14 < (p1.getD i5 default).length := by have := of_decide_eq_true hb15; omega
         have H := H1 hi14
         refine W.skip ?_
         refine At.thenC ?_
         refine W.seq ?_
         refine W.block ?_
         refine W.sr env [] [] [1, 2, 6, 10, 22, 23, 24, 50, 51, 52] [2, 21] rfl rfl rfl (.cons (⟨by omega, by omega⟩ : 0 ≤ (i14 : Int) ∧ (i14 : Int) < (((p1.getD i5 default).length : Nat) : Int)) .nil) .nil ?_
         obtain ⟨hc16, H⟩ := of_must H
         obtain ⟨hc17, H⟩ := of_must H
         obtain ⟨hc18, H⟩ := of_must H
         refine W.region env [] [] rfl rfl rfl (.cons (⟨by first | rfl | (simp; done) | omega | (simp; omega), hc16⟩) (.cons (⟨by first | rfl | (simp; done) | omega | (simp; omega), (by have := hc16; first | omega | (simp only [List.length_set]; omega) | (simp only [Int.toNat_natCast] at *; omega) | (simp at this ⊢; omega))⟩) (.cons hc17 (.cons (⟨by first | rfl | (simp; done) | omega | (simp; omega), hc18⟩) (.cons (⟨by first | rfl | (simp; done) | omega | (simp; omega), (by have := hc18; first | omega | (simp only [List.length_set]; omega) | (simp only [Int.toNat_natCast] at *; omega) | (simp at this ⊢; omega))⟩) .nil))))) .nil (At.keep (ts := [1, 2, 6, 22, 23, 24, 50, 51, 52]) (ids := [2, 21]) rfl rfl ?_)
         refine At.convM (.cons (.refl _) (.cons (y := bufL 3 1 enc_Int (s14.set (((p1.getD i5 default).getD i14 default)).toNat ((s14.getD (((p1.getD i5 default).getD i14 default)).toNat default) + 1))) (BSim.seg (Seg.set (Seg.refl enc_Int _) ((s14.getD (((p1.getD i5 default).getD i14 default)).toNat default) + 1) rfl)) .nil)) ?_
         refine At.inb ?_
         refine At.thenC ?_
         refine W.region env [] [] rfl rfl rfl (.cons (by unfold inI; have := hn14; (try unfold maxLen at this); omega) .nil) .nil (At.keep (ts := [1, 2, 6, 22, 23, 24, 50, 51, 52]) (ids := [2, 21]) rfl rfl ?_)
         refine At.thenK (At.keep (ts := [1, 2, 6, 22, 23, 24, 50, 51, 52]) (ids := [2, 21]) rfl rfl ?_)
         exact At.conv (.cons .q (.cons .q (.cons .qb (.cons .q (.cons .qi (.cons .qi (.cons .q (.cons .qi (.cons .qi .nil))))))))) (.cons .q (.cons .q .nil)) (hK14 hi14 (s14.set (((p1.getD i5 default).getD i14 default)).toNat ((s14.getD (((p1.getD i5 default).getD i14 default)).toNat default) + 1)) H)
       · have H := H2 (by have := of_decide_eq_false hb15; omega)
         refine W.exit ?_
         refine At.xthen ?_
         refine At.xthen ?_
         refine At.xhere ?_
         refine At.inb ?_
         refine At.thenC ?_
         refine W.region env [] [] rfl rfl rfl (.cons (by unfold inI; have := hn5; (try unfold maxLen at this); omega) .nil) .nil (At.keep (ts := [1, 2, 6, 22, 23, 24]) (ids := [2, 21]) rfl rfl ?_)
         refine At.thenK (At.keep (ts := [1, 2, 6, 22, 23, 24]) (ids := [2, 21]) rfl rfl ?_)
         exact At.conv (.cons .q (.cons .q (.cons .qb (.cons .q (.cons .qi (.cons .qi .nil)))))) (.cons .q (.cons .q .nil)) (hK5 hi5 s14 H)
   · have H := H2 (by have := of_decide_eq_false hb6; omega)
     refine W.exit ?_
     refine At.xthen ?_
     refine At.xthen ?_
     refine At.xhere ?_
     refine At.thenC ?_
     refine W.seq ?_
     refine W.sr env [] [] [64, 65, 66] [21] rfl rfl rfl (.cons (by first | rfl | (simp; done) | omega | (simp; omega)) .nil) .nil ?_
     refine W.block ?_
     refine At.keep (ts := [64, 65, 66]) (ids := [21]) rfl rfl ?_
     obtain ⟨hn19, H⟩ := of_must H
     refine W.rangeGo H (fun i19 (s19 : Unit) => [(64, .buf 21 (s5).length), (65, .int .i64 (((s5.length : Nat) : Int))), (66, .int .i64 ((i19 : Int)))]) (fun i19 (s19 : Unit) => [(21, bufL 3 1 enc_Int s5)]) (.cons .qb (.cons .qi (.cons .qi .nil))) (.cons .q .nil) (fun k19 i19 s19 hle19 H1 H2 K0 hK19 => ?_)
     refine W.rg env [64, 65, 66, 67] [21] ?_
     refine W.seq ?_
     refine W.cond rfl (fun hb20 => ?_) (fun hb20 => ?_)
     · have hi19 : i19 < s5.length := by have := of_decide_eq_true hb20; omega
       have H := H1 hi19
       refine W.skip ?_
       refine At.thenC ?_
       refine W.seq ?_
       refine W.block ?_
       refine W.sr env [] [] [12, 64, 65, 66] [21] rfl rfl rfl (.cons (⟨by first | rfl | (simp; done) | omega | (simp; omega), (⟨by omega, by omega⟩ : 0 ≤ (i19 : Int) ∧ (i19 : Int) < ((s5.length : Nat) : Int))⟩) (.cons (⟨by first | rfl | (simp; done) | omega | (simp; omega), (by have := (⟨by omega, by omega⟩ : 0 ≤ (i19 : Int) ∧ (i19 : Int) < ((s5.length : Nat) : Int)); first | omega | (simp only [List.length_set]; omega) | (simp only [Int.toNat_natCast] at *; omega) | (simp at this ⊢; omega))⟩) .nil)) .nil ?_
       refine W.rg env [64, 65, 66, 71] [21] ?_
       refine W.cond rfl (fun hb21 => ?_) (fun hb21 => ?_)
       · have H := of_true H hb21
         refine W.rg env [4] [] ?_
         refine W.ret ?_
         refine At.rinb ?_
         refine At.rthen ?_
         refine At.rthen ?_
         refine At.rinb ?_
         refine At.rthen ?_
         cases H
         exact At.ret env.ty rfl rfl (fun q hq => by cases hq) (.refl _) hval
       · have H := of_false H hb21
         refine W.skip ?_
         refine At.inb ?_
         refine At.thenC ?_
         refine W.region env [] [] rfl rfl rfl (.cons (by unfold inI; have := hn19; (try unfold maxLen at this); omega) .nil) .nil (At.keep (ts := [64, 65, 66]) (ids := [21]) rfl rfl ?_)
         refine At.thenK (At.keep (ts := [64, 65, 66]) (ids := [21]) rfl rfl ?_)
         exact At.conv (.cons .qb (.cons .qi (.cons .qi .nil))) (.cons .q .nil) (hK19 hi19 () H)
     · have H := H2 (by have := of_decide_eq_false hb20; omega)
       refine W.exit ?_
       refine At.xthen ?_
       refine At.xthen ?_
       refine At.xhere ?_
       refine At.thenC ?_
       refine W.rg env [4] [] ?_
       refine W.ret ?_
       cases H
       exact At.ret env.ty rfl rfl (fun q hq => by cases hq) (.refl _) hval
theorem c_crew_CheckCut (p0 : Crew) (p1 : (List Int)) (p2 : Int) {r : Int} (H : crew_CheckCut p0 p1 p2 = some r) : Ctr Try.prog 27 [.agg [roL 4 enc_Task p0.Tasks, roL 1 enc_ListRange p0.Travel, roL 3 enc_Hand p0.Hands], roL 1 enc_Int p1, .int .i64 (p2)] (.int .i64 (r)) := by
 unfold crew_CheckCut at H
 refine Ctr.of_body (N := 87) Try.func27 (by kernel_rfl) (c := _) rfl Try.ntmps27 rfl (fun w0 h0 hval => ?_)
 refine W.rg env [1, 2, 3] [3] ?_
 refine W.seq ?_
 refine W.seq ?_
 obtain ⟨y1, hy2, H⟩ := of_bindO H
 refine W.region env [] [⟨.int .i64 (y1), [], 0, []⟩] rfl rfl rfl .nil (.free (c_crew_Check p0 hy2) .nil) (At.keep (ts := [1, 2, 3, 7]) (ids := [3]) rfl rfl ?_)
 refine At.thenC ?_
 refine W.rg env [1, 2, 3, 7, 16] [3] ?_
 refine W.cond rfl (fun hb3 => ?_) (fun hb3 => ?_)
 · have H := of_true H hb3
   refine W.rg env [6] [] ?_
   refine W.ret ?_
   refine At.rthen ?_
   cases H
   exact At.ret env.ty rfl rfl (fun q hq => by cases hq) (.refl _) hval
 · have H := of_false H hb3
   refine W.skip ?_
   refine At.thenC ?_
   refine W.seq ?_
   obtain ⟨y4, hy5, H⟩ := of_bindO H
   refine W.region env [] [⟨.po y4.isSome [roL 4 enc_Task ((y4.getD default).Crew.Tasks), roL 1 enc_ListRange ((y4.getD default).Crew.Travel), roL 3 enc_Hand ((y4.getD default).Crew.Hands), roL 1 enc_Int ((y4.getD default).next)], [], 0, []⟩] rfl rfl rfl .nil (.free (c_crew_newPlan p0 (fun x0 => some (crew_most x0)) 46 [] [] (fun x0 r h => by cases h; exact c_crew_most x0) hy5) .nil) (At.keep (ts := [1, 2, 8]) (ids := []) rfl rfl ?_)
   refine At.thenC ?_
   refine W.seq ?_
   refine W.rg env [1, 2, 8, 20, 21, 22] [] ?_
   refine W.block ?_
   refine At.keep (ts := [1, 2, 8, 20, 21, 22]) (ids := []) rfl rfl ?_
   refine W.len (t := 20) rfl (fun (hn6 : p1.length ≤ maxLen) => ?_)
   refine W.rangeGo H (fun i6 (s6 : Unit) => [(1, roL 1 enc_Int p1), (2, .int .i64 (p2)), (8, .po y4.isSome [roL 4 enc_Task ((y4.getD default).Crew.Tasks), roL 1 enc_ListRange ((y4.getD default).Crew.Travel), roL 3 enc_Hand ((y4.getD default).Crew.Hands), roL 1 enc_Int ((y4.getD default).next)]), (20, roL 1 enc_Int p1), (21, .int .i64 (((p1.length : Nat) : Int))), (22, .int .i64 ((i6 : Int)))]) (fun i6 (s6 : Unit) => []) (.cons .q (.cons .qi (.cons .q (.cons .q (.cons .qi (.cons .qi .nil)))))) .nil (fun k6 i6 s6 hle6 H1 H2 K0 hK6 => ?_)
   refine W.rg env [1, 2, 8, 20, 21, 22, 23] [] ?_
   refine W.seq ?_
   refine W.cond rfl (fun hb7 => ?_) (fun hb7 => ?_)
   · have hi6 : i6 < p1.length := by have := of_decide_eq_true hb7; omega
     have H := H1 hi6
     refine W.skip ?_
     refine At.thenC ?_
     refine W.seq ?_
     refine W.block ?_
     refine W.sr env [] [] [1, 2, 8, 9, 10, 20, 21, 22] [] rfl rfl rfl (.cons (⟨by omega, by omega⟩ : 0 ≤ (i6 : Int) ∧ (i6 : Int) < ((p1.length : Nat) : Int)) .nil) .nil ?_
     refine W.seq ?_
     obtain ⟨hc8, H⟩ := of_must H
     obtain ⟨hc9, H⟩ := of_must H
     obtain ⟨hc10, H⟩ := of_must H
     obtain ⟨hc11, H⟩ := of_must H
     refine W.sr env [] [⟨.bool ((crew_in (p1.getD i6 default) 0 (((((y4.getD default).next).length : Nat) : Int) - 1))), [], 0, []⟩] [1, 2, 8, 9, 10, 20, 21, 22, 48] [] rfl rfl rfl (.cons hc8 (.cons hc9 (.cons (fun h => h) (.cons (fun h => h) (.cons hc10 (.cons (fun h => h) (.cons hc11 (.cons (fun h => h) (.cons (fun h => h) (.cons (fun h => h) (.cons (fun h => h) (.cons (fun h => h) (.cons (fun h => h) (.cons (fun hW h => by revert hW h; first | (simp +contextual; done) | grind) (.cons (fun h => by rw [h]; rfl) .nil))))))))))))))) (.free (c_crew_in (p1.getD i6 default) 0 (((((y4.getD default).next).length : Nat) : Int) - 1)) .nil) ?_
     refine W.cond rfl (fun hb12 => ?_) (fun hb12 => ?_)
     · have H := of_true H hb12
       refine W.rg env [6] [] ?_
       refine W.ret ?_
       refine At.rthen ?_
       refine At.rinb ?_
       refine At.rthen ?_
       refine At.rthen ?_
       refine At.rinb ?_
       refine At.rthen ?_
       cases H
       exact At.ret env.ty rfl rfl (fun q hq => by cases hq) (.refl _) hval
     · have H := of_false H hb12
       refine W.skip ?_
       refine At.thenC ?_
       refine W.seq ?_
       obtain ⟨hc13, H⟩ := of_must H
       refine W.region env [] [] rfl rfl rfl (.cons hc13 .nil) .nil (At.keep (ts := [1, 2, 8, 10, 20, 21, 22, 51, 52, 53]) (ids := []) rfl rfl ?_)
       refine At.slot (t := 51) (v := roL 1 enc_Int (p1.take i6)) (Sim.seg (Seg.take enc_Int p1 i6 (by omega))) ?_
       refine At.thenC ?_
       refine W.block ?_
       refine At.keep (ts := [1, 2, 8, 10, 20, 21, 22, 51, 52, 53]) (ids := []) rfl rfl ?_
       refine W.len (t := 51) rfl (fun (hn14 : (p1.take i6).length ≤ maxLen) => ?_)
       refine W.rangeGo H (fun i14 (s14 : Unit) => [(1, roL 1 enc_Int p1), (2, .int .i64 (p2)), (8, .po y4.isSome [roL 4 enc_Task ((y4.getD default).Crew.Tasks), roL 1 enc_ListRange ((y4.getD default).Crew.Travel), roL 3 enc_Hand ((y4.getD default).Crew.Hands), roL 1 enc_Int ((y4.getD default).next)]), (10, .int .i64 ((p1.getD i6 default))), (20, roL 1 enc_Int p1), (21, .int .i64 (((p1.length : Nat) : Int))), (22, .int .i64 ((i6 : Int))), (51, roL 1 enc_Int (p1.take i6)), (52, .int .i64 ((((p1.take i6).length : Nat) : Int))), (53, .int .i64 ((i14 : Int)))]) (fun i14 (s14 : Unit) => []) (.cons .q (.cons .qi (.cons .q (.cons .qi (.cons .q (.cons .qi (.cons .qi (.cons .q (.cons .qi (.cons .qi .nil)))))))))) .nil (fun k14 i14 s14 hle14 H1 H2 K0 hK14 => ?_)
       refine W.rg env [1, 2, 8, 10, 20, 21, 22, 51, 52, 53, 54] [] ?_
       refine W.seq ?_
       refine W.cond rfl (fun hb15 => ?_) (fun hb15 => ?_)
       · have hi14 : i14 < (p1.take i6).length := by have := of_decide_eq_true hb15; omega
         have H := H1 hi14
         refine W.skip ?_
         refine At.thenC ?_
         refine W.seq ?_
         refine W.block ?_
         refine W.sr env [] [] [1, 2, 8, 10, 12, 20, 21, 22, 51, 52, 53] [] rfl rfl rfl (.cons (⟨by omega, by omega⟩ : 0 ≤ (i14 : Int) ∧ (i14 : Int) < (((p1.take i6).length : Nat) : Int)) .nil) .nil ?_
         obtain ⟨hc16, H⟩ := of_must H
         obtain ⟨hc17, H⟩ := of_must H
         obtain ⟨hc18, H⟩ := of_must H
         obtain ⟨hc19, H⟩ := of_must H
         obtain ⟨hc20, H⟩ := of_must H
         obtain ⟨hc21, H⟩ := of_must H
         obtain ⟨hc22, H⟩ := of_must H
         obtain ⟨hc23, H⟩ := of_must H
         refine W.sr env [] [] [1, 2, 8, 10, 20, 21, 22, 51, 52, 53, 80] [] rfl rfl rfl (.cons hc16 (.cons hc17 (.cons hc18 (.cons hc19 (.cons hc20 (.cons (fun h => h) (.cons (fun h => h) (.cons (fun h => h) (.cons hc21 (.cons (fun h => h) (.cons (fun h => h) (.cons (fun h => h) (.cons hc22 (.cons (fun h => h) (.cons (fun h => h) (.cons hc23 (.cons (fun h => h) (.cons (fun h => h) (.cons (fun h => by rw [h]; rfl) .nil))))))))))))))))))) .nil ?_
         refine W.cond rfl (fun hb24 => ?_) (fun hb24 => ?_)
         · have H := of_true H hb24
           refine W.rg env [6] [] ?_
           refine W.ret ?_
           refine At.rinb ?_
           refine At.rthen ?_
           refine At.rthen ?_
           refine At.rinb ?_
           refine At.rinb ?_
           refine At.rthen ?_
           refine At.rthen ?_
           refine At.rinb ?_
           refine At.rthen ?_
           cases H
           exact At.ret env.ty rfl rfl (fun q hq => by cases hq) (.refl _) hval
         · have H := of_false H hb24
           refine W.skip ?_
           refine At.inb ?_
           refine At.thenC ?_
           refine W.region env [] [] rfl rfl rfl (.cons (by unfold inI; have := hn14; (try unfold maxLen at this); omega) .nil) .nil (At.keep (ts := [1, 2, 8, 10, 20, 21, 22, 51, 52, 53]) (ids := []) rfl rfl ?_)
           refine At.thenK (At.keep (ts := [1, 2, 8, 10, 20, 21, 22, 51, 52, 53]) (ids := []) rfl rfl ?_)
           exact At.conv (.cons .q (.cons .qi (.cons .q (.cons .qi (.cons .q (.cons .qi (.cons .qi (.cons .q (.cons .qi (.cons .qi .nil)))))))))) .nil (hK14 hi14 () H)
       · have H := H2 (by have := of_decide_eq_false hb15; omega)
         refine W.exit ?_
         refine At.xthen ?_
         refine At.xthen ?_
         refine At.xhere ?_
         refine At.inb ?_
         refine At.thenC ?_
         refine W.region env [] [] rfl rfl rfl (.cons (by unfold inI; have := hn6; (try unfold maxLen at this); omega) .nil) .nil (At.keep (ts := [1, 2, 8, 20, 21, 22]) (ids := []) rfl rfl ?_)
         refine At.thenK (At.keep (ts := [1, 2, 8, 20, 21, 22]) (ids := []) rfl rfl ?_)
         exact At.conv (.cons .q (.cons .qi (.cons .q (.cons .q (.cons .qi (.cons .qi .nil)))))) .nil (hK6 hi6 () H)
   · have H := H2 (by have := of_decide_eq_false hb7; omega)
     refine W.exit ?_
     refine At.xthen ?_
     refine At.xthen ?_
     refine At.xhere ?_
     refine At.thenC ?_
     refine W.seq ?_
     refine W.rg env [86] [] ?_
     refine W.cond rfl (fun hb25 => ?_) (fun hb25 => ?_)
     · have H := of_true H hb25
       refine W.rg env [6] [] ?_
       refine W.ret ?_
       refine At.rthen ?_
       cases H
       exact At.ret env.ty rfl rfl (fun q hq => by cases hq) (.refl _) hval
     · have H := of_false H hb25
       refine W.skip ?_
       refine At.thenC ?_
       refine W.rg env [6] [] ?_
       refine W.ret ?_
       cases H
       exact At.ret env.ty rfl rfl (fun q hq => by cases hq) (.refl _) hval
theorem c_gasolierref04_CheckCut (fuel : Nat) (p0 : Crew) (p1 : (List Int)) (p2 : Int) {r : Int} (H : gasolierref04_CheckCut fuel p0 p1 p2 = some r) : Ctr Try.prog 28 [.agg [roL 4 enc_Task p0.Tasks, roL 1 enc_ListRange p0.Travel, roL 3 enc_Hand p0.Hands], roL 1 enc_Int p1, .int .i64 (p2)] (.int .i64 (r)) := by
 unfold gasolierref04_CheckCut at H
 refine Ctr.of_body (N := 71) Try.func28 (by kernel_rfl) (c := _) rfl Try.ntmps28 rfl (fun w0 h0 hval => ?_)
 refine W.rg env [1, 2, 3] [3] ?_
 refine W.seq ?_
 refine W.seq ?_
 obtain ⟨y1, hy2, H⟩ := of_bindO H
 refine W.region env [] [⟨.int .i64 (y1), [], 0, []⟩] rfl rfl rfl .nil (.free (c_gasolierref04_Check p0 hy2) .nil) (At.keep (ts := [1, 2, 3, 7]) (ids := [3]) rfl rfl ?_)
 refine At.thenC ?_
 refine W.rg env [1, 2, 3, 7, 14] [3] ?_
 refine W.cond rfl (fun hb3 => ?_) (fun hb3 => ?_)
 · have H := of_true H hb3
   refine W.rg env [6] [] ?_
   refine W.ret ?_
   refine At.rthen ?_
   cases H
   exact At.ret env.ty rfl rfl (fun q hq => by cases hq) (.refl _) hval
 · have H := of_false H hb3
   refine W.skip ?_
   refine At.thenC ?_
   refine W.seq ?_
   refine W.rg env [1, 2, 3, 16, 17, 18] [3] ?_
   refine W.block ?_
   refine At.keep (ts := [1, 2, 3, 16, 17, 18]) (ids := [3]) rfl rfl ?_
   refine W.len (t := 16) rfl (fun (hn4 : p1.length ≤ maxLen) => ?_)
   refine W.rangeGo H (fun i4 (s4 : Unit) => [(1, roL 1 enc_Int p1), (2, .int .i64 (p2)), (3, .lp 3 0), (16, roL 1 enc_Int p1), (17, .int .i64 (((p1.length : Nat) : Int))), (18, .int .i64 ((i4 : Int)))]) (fun i4 (s4 : Unit) => [(3, .cells [roL 4 enc_Task p0.Tasks, roL 1 enc_ListRange p0.Travel, roL 3 enc_Hand p0.Hands])]) (.cons .q (.cons .qi (.cons .q (.cons .q (.cons .qi (.cons .qi .nil)))))) (.cons .q .nil) (fun k4 i4 s4 hle4 H1 H2 K0 hK4 => ?_)
   refine W.rg env [1, 2, 3, 16, 17, 18, 19] [3] ?_
   refine W.seq ?_
   refine W.cond rfl (fun hb5 => ?_) (fun hb5 => ?_)
   · have hi4 : i4 < p1.length := by have := of_decide_eq_true hb5; omega
     have H := H1 hi4
     refine W.skip ?_
     refine At.thenC ?_
     refine W.seq ?_
     refine W.block ?_
     refine W.sr env [] [] [1, 2, 3, 8, 9, 16, 17, 18] [3] rfl rfl rfl (.cons (⟨by omega, by omega⟩ : 0 ≤ (i4 : Int) ∧ (i4 : Int) < ((p1.length : Nat) : Int)) .nil) .nil ?_
     refine W.seq ?_
     obtain ⟨hc6, H⟩ := of_must H
     obtain ⟨hc7, H⟩ := of_must H
     obtain ⟨hc8, H⟩ := of_must H
     refine W.sr env [] [⟨.bool ((gasolierref01_Within (p1.getD i4 default) 0 (((p0.Tasks.length : Nat) : Int) - 1))), [], 0, []⟩] [1, 2, 3, 8, 9, 16, 17, 18, 42] [3] rfl rfl rfl (.cons hc6 (.cons (fun h => h) (.cons (fun h => h) (.cons hc7 (.cons (fun h => h) (.cons hc8 (.cons (fun h => h) (.cons (fun h => h) (.cons (fun h => h) (.cons (fun h => h) (.cons (fun h => h) (.cons (fun h => h) (.cons (fun hW h => by revert hW h; first | (simp +contextual; done) | grind) (.cons (fun h => by rw [h]; rfl) .nil)))))))))))))) (.free (c_gasolierref01_Within (p1.getD i4 default) 0 (((p0.Tasks.length : Nat) : Int) - 1)) .nil) ?_
     refine W.cond rfl (fun hb9 => ?_) (fun hb9 => ?_)
     · have H := of_true H hb9
       refine W.rg env [6] [] ?_
       refine W.ret ?_
       refine At.rthen ?_
       refine At.rinb ?_
       refine At.rthen ?_
       refine At.rthen ?_
       refine At.rinb ?_
       refine At.rthen ?_
       cases H
       exact At.ret env.ty rfl rfl (fun q hq => by cases hq) (.refl _) hval
     · have H := of_false H hb9
       refine W.skip ?_
       refine At.thenC ?_
       refine W.rg env [1, 2, 3, 8, 9, 10, 16, 17, 18] [3] ?_
       refine W.block ?_
       refine At.keep (ts := [1, 2, 3, 8, 9, 10, 16, 17, 18]) (ids := [3]) rfl rfl ?_
       refine W.loopGo H (fun (s10 : Int) => [(1, roL 1 enc_Int p1), (2, .int .i64 (p2)), (3, .lp 3 0), (8, .int .i64 ((i4 : Int))), (9, .int .i64 ((p1.getD i4 default))), (10, .int .i64 (s10)), (16, roL 1 enc_Int p1), (17, .int .i64 (((p1.length : Nat) : Int))), (18, .int .i64 ((i4 : Int)))]) (fun (s10 : Int) => [(3, .cells [roL 4 enc_Task p0.Tasks, roL 1 enc_ListRange p0.Travel, roL 3 enc_Hand p0.Hands])]) (.cons .q (.cons .qi (.cons .q (.cons .qi (.cons .qi (.cons .qi (.cons .q (.cons .qi (.cons .qi .nil))))))))) (.cons .q .nil) (fun k10 s10 H K0 hK10 => ?_)
       refine W.seq ?_
       refine W.rg env [1, 2, 3, 8, 9, 10, 16, 17, 18, 45] [3] ?_
       refine W.cond rfl (fun hb11 => ?_) (fun hb11 => ?_)
       · have H := of_true H hb11
         refine W.skip ?_
         refine At.thenC ?_
         refine W.seq ?_
         refine W.block ?_
         refine W.seq ?_
         obtain ⟨hc12, H⟩ := of_must H
         obtain ⟨y13, hy14, H⟩ := of_bindO H
         obtain ⟨hc15, H⟩ := of_must H
         obtain ⟨y16, hy17, H⟩ := of_bindO H
         refine W.region env [] [⟨.int .i64 (y13), [], 0, []⟩, ⟨.int .i64 (y16), [], 0, []⟩] rfl rfl (by kernel_rfl) (.cons hc12 (.cons hc15 (.cons (fun h => h) (.cons (fun h => h) (.cons (fun h => h) (.cons (fun h => h) (.cons (fun h => h) (.cons (fun h => h) (.cons (fun h => h) (.cons (fun h => by rw [h]; rfl) .nil)))))))))) (.free (c_gasolierref04_follows p0 (p1.getD i4 default) (p1.getD (s10).toNat default) hy14) (.on (fun hW => c_gasolierref04_follows p0 (p1.getD (s10).toNat default) (p1.getD i4 default) (of_true hy17 hW)) .nil)) (At.keep (ts := [1, 2, 3, 8, 9, 10, 16, 17, 18, 65]) (ids := [3]) rfl rfl ?_)
         refine At.thenC ?_
         refine W.cond rfl (fun hb18 => ?_) (fun hb18 => ?_)
         · have H := of_true H hb18
           refine W.rg env [6] [] ?_
           refine W.ret ?_
           refine At.rinb ?_
           refine At.rthen ?_
           refine At.rthen ?_
           refine At.rinb ?_
           refine At.rinb ?_
           refine At.rthen ?_
           refine At.rthen ?_
           refine At.rinb ?_
           refine At.rthen ?_
           cases H
           exact At.ret env.ty rfl rfl (fun q hq => by cases hq) (.refl _) hval
         · have H := of_false H hb18
           refine W.skip ?_
           refine At.inb ?_
           refine At.thenC ?_
           obtain ⟨hc19, H⟩ := of_must H
           refine W.region env [] [] rfl rfl rfl (.cons hc19 .nil) .nil (At.keep (ts := [1, 2, 3, 8, 9, 10, 16, 17, 18]) (ids := [3]) rfl rfl ?_)
           refine At.thenK (At.keep (ts := [1, 2, 3, 8, 9, 10, 16, 17, 18]) (ids := [3]) rfl rfl ?_)
           exact At.conv (.cons .q (.cons .qi (.cons .q (.cons .qi (.cons .qi (.cons .qi (.cons .q (.cons .qi (.cons .qi .nil))))))))) (.cons .q .nil) (hK10 (s10 + 1) H)
       · have H := of_false H hb11
         refine W.exit ?_
         refine At.xthen ?_
         refine At.xthen ?_
         refine At.xhere ?_
         refine At.inb ?_
         refine At.thenC ?_
         refine W.region env [] [] rfl rfl rfl (.cons (by unfold inI; have := hn4; (try unfold maxLen at this); omega) .nil) .nil (At.keep (ts := [1, 2, 3, 16, 17, 18]) (ids := [3]) rfl rfl ?_)
         refine At.thenK (At.keep (ts := [1, 2, 3, 16, 17, 18]) (ids := [3]) rfl rfl ?_)
         exact At.conv (.cons .q (.cons .qi (.cons .q (.cons .q (.cons .qi (.cons .qi .nil)))))) (.cons .q .nil) (hK4 hi4 () H)
   · have H := H2 (by have := of_decide_eq_false hb5; omega)
     refine W.exit ?_
     refine At.xthen ?_
     refine At.xthen ?_
     refine At.xhere ?_
     refine At.thenC ?_
     refine W.seq ?_
     refine W.rg env [70] [] ?_
     refine W.cond rfl (fun hb20 => ?_) (fun hb20 => ?_)
     · have H := of_true H hb20
       refine W.rg env [6] [] ?_
       refine W.ret ?_
       refine At.rthen ?_
       cases H
       exact At.ret env.ty rfl rfl (fun q hq => by cases hq) (.refl _) hval
     · have H := of_false H hb20
       refine W.skip ?_
       refine At.thenC ?_
       refine W.rg env [6] [] ?_
       refine W.ret ?_
       cases H
       exact At.ret env.ty rfl rfl (fun q hq => by cases hq) (.refl _) hval
theorem c_crew_Rounds (fuel : Nat) (p0 : Crew) {r : ((List (List Int)) × Int)} (H : crew_Rounds fuel p0 = some r) : Ctr Try.prog 17 [.agg [roL 4 enc_Task p0.Tasks, roL 1 enc_ListRange p0.Travel, roL 3 enc_Hand p0.Hands]] (.tup [roL 1 enc_ListInt r.1, .int .i64 (r.2)]) := by
 unfold crew_Rounds at H
 refine Ctr.of_body (N := 49) Try.func17 (by kernel_rfl) (c := _) rfl Try.ntmps17 rfl (fun w0 h0 hval => ?_)
 refine W.rg env [1] [1] ?_
 refine W.seq ?_
 refine W.seq ?_
 obtain ⟨y1, hy2, H⟩ := of_bindO H
 refine W.region env [] [⟨.int .i64 (y1), [], 0, []⟩] rfl rfl rfl .nil (.free (c_crew_Check p0 hy2) .nil) (At.keep (ts := [1, 4]) (ids := [1]) rfl rfl ?_)
 refine At.thenC ?_
 refine W.rg env [1, 4, 14] [1] ?_
 refine W.cond rfl (fun hb3 => ?_) (fun hb3 => ?_)
 · have H := of_true H hb3
   refine W.rg env [2, 3] [] ?_
   refine W.ret ?_
   refine At.rthen ?_
   cases H
   exact At.ret env.ty rfl rfl (fun q hq => by cases hq) (Sim.tupL (.cons (Sim.nil _ _) (.cons (.refl _) .nil))) hval
 · have H := of_false H hb3
   refine W.skip ?_
   refine At.thenC ?_
   refine W.seq ?_
   obtain ⟨y4, hy5, H⟩ := of_bindO H
   obtain ⟨hc6, H⟩ := of_must H
   obtain ⟨y7, hy8, H⟩ := of_bindO H
   refine W.region env [] [⟨.po y4.isSome [roL 4 enc_Task ((y4.getD default).Crew.Tasks), roL 1 enc_ListRange ((y4.getD default).Crew.Travel), roL 3 enc_Hand ((y4.getD default).Crew.Hands), roL 1 enc_Int ((y4.getD default).next)], [], 0, []⟩, ⟨.tup [roL 1 enc_Int y7.1, roL 1 enc_Int y7.2], [], 0, []⟩] rfl rfl rfl .nil (.free (c_crew_newPlan p0 (fun x0 => some (crew_most x0)) 46 [] [] (fun x0 r h => by cases h; exact c_crew_most x0) hy5) (.free (Ctr.sim (.cons (Sim.rp_po hc6) .nil) (c_crew_plan__pair fuel (y4.getD default) hy8)) .nil)) (At.keep (ts := [5, 6]) (ids := []) rfl rfl ?_)
   refine At.thenC ?_
   refine W.rg env [5, 6, 7] [] ?_
   refine W.seq ?_
   refine W.rg env [5, 6, 7, 23, 24] [] ?_
   refine W.block ?_
   refine At.nilOwn 7 507 28 1 (e := fun i => enc_ListInt (([] : List (List Int)).getD i default)) rfl rfl ?_
   refine At.keep (ts := [5, 6, 7, 23, 24]) (ids := [507]) rfl rfl ?_
   refine W.len (t := 5) rfl (fun (hn9 : y7.1.length ≤ maxLen) => ?_)
   refine W.rangeGo H (fun i9 (s9 : (List (List Int))) => [(5, roL 1 enc_Int y7.1), (6, roL 1 enc_Int y7.2), (7, .buf 507 (s9).length), (23, .int .i64 (((y7.1.length : Nat) : Int))), (24, .int .i64 ((i9 : Int)))]) (fun i9 (s9 : (List (List Int))) => [(507, bufL 28 1 enc_ListInt s9)]) (.cons .q (.cons .q (.cons .qb (.cons .qi (.cons .qi .nil))))) (.cons .q .nil) (fun k9 i9 s9 hle9 H1 H2 K0 hK9 => ?_)
   refine W.rg env [5, 6, 7, 23, 24, 25] [507] ?_
   refine W.seq ?_
   refine W.cond rfl (fun hb10 => ?_) (fun hb10 => ?_)
   · have hi9 : i9 < y7.1.length := by have := of_decide_eq_true hb10; omega
     have H := H1 hi9
     refine W.skip ?_
     refine At.thenC ?_
     refine W.seq ?_
     refine W.block ?_
     refine W.rg env [5, 6, 7, 8, 23, 24] [507] ?_
     refine W.seq ?_
     refine W.sr env [] [] [5, 6, 7, 8, 23, 24, 31] [507] rfl rfl rfl (.cons (⟨by omega, by omega⟩ : 0 ≤ (i9 : Int) ∧ (i9 : Int) < ((y7.1.length : Nat) : Int)) .nil) .nil ?_
     refine W.cond rfl (fun hb11 => ?_) (fun hb11 => ?_)
     · have H := of_true H hb11
       refine W.exit ?_
       refine At.xthen ?_
       refine At.xhere ?_
       refine At.thenC ?_
       refine W.region env [] [] rfl rfl rfl (.cons (by unfold inI; have := hn9; (try unfold maxLen at this); omega) .nil) .nil (At.keep (ts := [5, 6, 7, 23, 24]) (ids := [507]) rfl rfl ?_)
       refine At.thenK (At.keep (ts := [5, 6, 7, 23, 24]) (ids := [507]) rfl rfl ?_)
       exact At.conv (.cons .q (.cons .q (.cons .qb (.cons .qi (.cons .qi .nil))))) (.cons .q .nil) (hK9 hi9 s9 H)
     · have H := of_false H hb11
       refine W.skip ?_
       refine At.thenC ?_
       refine W.rg env [5, 6, 7, 8, 9, 23, 24] [507] ?_
       refine W.seq ?_
       refine W.rg env [5, 6, 7, 9, 10, 23, 24] [507] ?_
       refine W.block ?_
       refine At.nilOwn 9 509 3 1 (e := fun i => enc_Int (([] : List Int).getD i default)) rfl rfl ?_
       refine At.keep (ts := [5, 6, 7, 9, 10, 23, 24]) (ids := [507, 509]) rfl rfl ?_
       refine W.loopGo H (fun (s12 : Int × (List Int)) => [(5, roL 1 enc_Int y7.1), (6, roL 1 enc_Int y7.2), (7, .buf 507 (s9).length), (9, .buf 509 (s12.2).length), (10, .int .i64 (s12.1)), (23, .int .i64 (((y7.1.length : Nat) : Int))), (24, .int .i64 ((i9 : Int)))]) (fun (s12 : Int × (List Int)) => [(507, bufL 28 1 enc_ListInt s9), (509, bufL 3 1 enc_Int s12.2)]) (.cons .q (.cons .q (.cons .qb (.cons .qb (.cons .qi (.cons .qi (.cons .qi .nil))))))) (.cons .q (.cons .q .nil)) (fun k12 s12 H K0 hK12 => ?_)
       refine W.seq ?_
       refine W.rg env [5, 6, 7, 9, 10, 23, 24, 34] [507, 509] ?_
       refine W.cond rfl (fun hb13 => ?_) (fun hb13 => ?_)
       · have H := of_true H hb13
         refine W.skip ?_
         refine At.thenC ?_
         refine W.seq ?_
         refine W.block ?_
         obtain ⟨hc14, H⟩ := of_must H
         refine W.region env [] [] rfl rfl rfl (.cons (⟨by first | rfl | (simp; done) | omega | (simp; omega), by have := hc14; first | simpa using this | (unfold room at this ⊢; simp at this ⊢; omega)⟩) .nil) .nil (At.keep (ts := [5, 6, 7, 9, 10, 23, 24]) (ids := [507, 509]) rfl rfl ?_)
         refine At.convM (.cons (.refl _) (.cons (y := bufL 3 1 enc_Int (s12.2 ++ ([s12.1] : List Int))) (BSim.seg (Seg.push (Seg.refl enc_Int _) (Seg.lit (f := enc_Int) (sz := 1) ([s12.1] : List Int) rfl rfl (fun _ => rfl)))) .nil)) ?_
         refine At.inb ?_
         refine At.thenC ?_
         obtain ⟨hc15, H⟩ := of_must H
         refine W.region env [] [] rfl rfl rfl (.cons hc15 .nil) .nil (At.keep (ts := [5, 6, 7, 9, 10, 23, 24]) (ids := [507, 509]) rfl rfl ?_)
         refine At.thenK (At.keep (ts := [5, 6, 7, 9, 10, 23, 24]) (ids := [507, 509]) rfl rfl ?_)
         exact At.conv (.cons .q (.cons .q (.cons .qb (.cons .qb (.cons .qi (.cons .qi (.cons .qi .nil))))))) (.cons .q (.cons .q .nil)) (hK12 ((y7.2.getD (s12.1).toNat default), (s12.2 ++ ([s12.1] : List Int))) H)
       · have H := of_false H hb13
         refine W.exit ?_
         refine At.xthen ?_
         refine At.xthen ?_
         refine At.xhere ?_
         refine At.thenC ?_
         refine At.freeze 9 509 (K := [507]) (ts := [5, 6, 7, 23, 24]) rfl rfl (by first | rfl | (simp; done) | omega | (simp; omega)) rfl rfl rfl (fun _ h => h) ?_
         obtain ⟨hc16, H⟩ := of_must H
         refine W.region env [] [] rfl rfl rfl (.cons (⟨by first | rfl | (simp; done) | omega | (simp; omega), by have := hc16; first | simpa using this | (unfold room at this ⊢; simp at this ⊢; omega)⟩) .nil) .nil (At.keep (ts := [5, 6, 7, 23, 24]) (ids := [507]) rfl rfl ?_)
         refine At.convM (.cons (y := bufL 28 1 enc_ListInt (s9 ++ ([s12.2] : List (List Int)))) (BSim.seg (Seg.push (Seg.refl enc_ListInt _) (Seg.lit (f := enc_ListInt) (sz := 1) ([s12.2] : List (List Int)) rfl rfl (fun _ => rfl)))) .nil) ?_
         refine At.inb ?_
         refine At.thenC ?_
         refine W.region env [] [] rfl rfl rfl (.cons (by unfold inI; have := hn9; (try unfold maxLen at this); omega) .nil) .nil (At.keep (ts := [5, 6, 7, 23, 24]) (ids := [507]) rfl rfl ?_)
         refine At.thenK (At.keep (ts := [5, 6, 7, 23, 24]) (ids := [507]) rfl rfl ?_)
         exact At.conv (.cons .q (.cons .q (.cons .qb (.cons .qi (.cons .qi .nil))))) (.cons .q .nil) (hK9 hi9 (s9 ++ ([s12.2] : List (List Int))) H)
   · have H := H2 (by have := of_decide_eq_false hb10; omega)
     refine W.exit ?_
     refine At.xthen ?_
     refine At.xthen ?_
     refine At.xhere ?_
     refine At.thenC ?_
     refine W.rg env [2, 3] [507] ?_
     refine W.ret ?_
     cases H
     exact At.ret env.ty rfl rfl (fun q hq => by cases hq; exact (by first | rfl | (simp; done) | omega | (simp; omega))) (.refl _) hval
theorem cl_crew_Cut_1_l (fuel : Nat) : ∀ (n : Nat) (p0 : Int) (c0 : Int) (c1 : (Option crew_plan)) (c2 : Int) (c3 : (List Int)) {r : (Int × Int)} (H : crew_Cut_1_l fuel n p0 c0 c1 c2 c3 = some r), CtrO Try.prog 68 [.int .i64 (p0), .lp 90000 0, .lp 90001 0, .lp 90002 0, .lp 90003 0, .lp 90004 0] [(90000, .cells [.int .i64 (c0)]), (90001, .cells [.po c1.isSome [roL 4 enc_Task ((c1.getD default).Crew.Tasks), roL 1 enc_ListRange ((c1.getD default).Crew.Travel), roL 3 enc_Hand ((c1.getD default).Crew.Hands), roL 1 enc_Int ((c1.getD default).next)]]), (90002, .cells [.int .i64 (c2)]), (90003, .cells [roL 1 enc_Int c3]), (90004, .cells [.fn (.func 68) [] [.lp 90000 0, .lp 90001 0, .lp 90002 0, .lp 90003 0, .lp 90004 0]])] (.tup []) [(90000, .cells [.int .i64 (r.1)]), (90001, .cells [.po c1.isSome [roL 4 enc_Task ((c1.getD default).Crew.Tasks), roL 1 enc_ListRange ((c1.getD default).Crew.Travel), roL 3 enc_Hand ((c1.getD default).Crew.Hands), roL 1 enc_Int ((c1.getD default).next)]]), (90002, .cells [.int .i64 (r.2)]), (90003, .cells [roL 1 enc_Int c3]), (90004, .cells [.fn (.func 68) [] [.lp 90000 0, .lp 90001 0, .lp 90002 0, .lp 90003 0, .lp 90004 0]])] := by
 intro n; induction n with
 | zero => intro p0 c0 c1 c2 c3 r H; cases H
 | succ n ih =>
   intro p0 c0 c1 c2 c3 r H
   have H : crew_Cut_1_l_F fuel (crew_Cut_1_l fuel n) p0 c0 c1 c2 c3 = some r := H
   unfold crew_Cut_1_l_F at H
   refine CtrL.of_body (N := 36) Try.func68 (by kernel_rfl) (c := _) rfl Try.ntmps68 rfl rfl (fun w0 h0 ρb hval hdom hent => ?_)
   refine W.seq ?_
   obtain ⟨hc1, H⟩ := of_must H
   obtain ⟨hc2, H⟩ := of_must H
   refine W.sr env [] [] [0, 1, 2, 3, 4, 5, 12] [90000, 90001, 90002, 90003, 90004] rfl rfl rfl (.cons hc1 (.cons hc2 .nil)) .nil ?_
   refine W.cond rfl (fun hb3 => ?_) (fun hb3 => ?_)
   · have H := of_true H hb3
     refine W.ret ?_
     refine At.rthen ?_
     cases H
     exact At.retL env.ty [90000, 90001, 90002, 90003, 90004] rfl rfl rfl rfl (.cons (.refl _) (.cons (.refl _) (.cons (.refl _) (.cons (.refl _) (.cons (.refl _) .nil))))) (.refl _) hval hdom hent rfl rfl
   · have H := of_false H hb3
     refine W.skip ?_
     refine At.thenC ?_
     obtain ⟨hc4, H⟩ := of_must H
     obtain ⟨hc5, H⟩ := of_must H
     refine W.sr env [] [] [0, 2, 3, 4, 5] [90000, 90001, 90002, 90003, 90004] rfl rfl (by first | rfl | kernel_rfl) (.cons hc4 (.cons hc5 .nil)) .nil ?_
     obtain ⟨hc6, H⟩ := of_must H
     refine W.sr env [] [⟨.clo (.func 98) [] [.rp [.rp [roL 4 enc_Task ((c1.getD default).Crew.Tasks), roL 1 enc_ListRange ((c1.getD default).Crew.Travel), roL 3 enc_Hand ((c1.getD default).Crew.Hands), roL 1 enc_Int ((c1.getD default).next)]], .rp [.int .i64 (p0)]], [], 0, []⟩] [3, 4, 5, 19] [90000, 90001, 90002, 90003, 90004] rfl rfl rfl .nil (.free (Ctr.sim (.cons (Sim.rp_po hc6) (.cons (.refl _) .nil)) (c_crew_plan__followers (c1.getD default) p0)) .nil) ?_
     refine W.block ?_
     obtain ⟨it7, hit7, H⟩ := of_bindO H
     refine At.keep (ts := [3, 4, 5, 19]) (ids := [90000, 90001, 90002, 90003, 90004]) rfl rfl ?_
     refine W.listGo H (fun (x : Int) => [.int .i64 (x)]) (c_crew_plan__followers_1 (c1.getD default) p0 hit7) rfl (fun _ => ⟨rfl, rfl⟩) rfl rfl rfl (fun (s8 : Int × Int) => [(90000, .cells [.int .i64 (s8.1)]), (90001, .cells [.po c1.isSome [roL 4 enc_Task ((c1.getD default).Crew.Tasks), roL 1 enc_ListRange ((c1.getD default).Crew.Travel), roL 3 enc_Hand ((c1.getD default).Crew.Hands), roL 1 enc_Int ((c1.getD default).next)]]), (90002, .cells [.int .i64 (s8.2)]), (90003, .cells [roL 1 enc_Int c3]), (90004, .cells [.fn (.func 68) [] [.lp 90000 0, .lp 90001 0, .lp 90002 0, .lp 90003 0, .lp 90004 0]])]) (.cons .q (.cons .q (.cons .q (.cons .q (.cons .q .nil))))) (fun (x7 : Int) => [(3, .lp 90002 0), (4, .lp 90003 0), (5, .lp 90004 0), (7, .int .i64 (x7))]) (fun (x7 : Int) (s8 : Int × Int) => [(90000, .cells [.int .i64 (s8.1)]), (90001, .cells [.po c1.isSome [roL 4 enc_Task ((c1.getD default).Crew.Tasks), roL 1 enc_ListRange ((c1.getD default).Crew.Travel), roL 3 enc_Hand ((c1.getD default).Crew.Hands), roL 1 enc_Int ((c1.getD default).next)]]), (90002, .cells [.int .i64 (s8.2)]), (90003, .cells [roL 1 enc_Int c3]), (90004, .cells [.fn (.func 68) [] [.lp 90000 0, .lp 90001 0, .lp 90002 0, .lp 90003 0, .lp 90004 0]])]) (fun _ (_ : Unit) => False) (fun _ _ => []) (fun _ _ h => h.elim) hval (fun h1 vs gh st lp x7 s8 K hK => ?_) (fun k8 h1 vs gh st lp x7 s8 H Qr hQ8 hX8 => ?_) (fun s8 H => ?_) (fun _ _ h => h.elim)
     · refine W.region env [] [] rfl rfl rfl .nil .nil (At.keep (ts := [3, 4, 5, 7]) (ids := [90000, 90001, 90002, 90003, 90004]) rfl rfl ?_)
       refine At.thenK (At.keep (ts := [3, 4, 5, 7]) (ids := [90000, 90001, 90002, 90003, 90004]) rfl rfl ?_)
       exact hK
     · refine W.block ?_
       obtain ⟨hc9, H⟩ := of_must H
       obtain ⟨hc10, H⟩ := of_must H
       refine W.sr env [] [] [4, 5, 7] [90000, 90001, 90002, 90003, 90004] rfl rfl (by first | rfl | kernel_rfl) (.cons hc9 (.cons hc10 .nil)) .nil ?_
       obtain ⟨hc11, H⟩ := of_must H
       refine W.sr env [] [] [4, 5, 7, 29] [90000, 90001, 90002, 90003, 90004] rfl rfl rfl (.cons hc11 .nil) .nil ?_
       refine W.cond rfl (fun hb12 => ?_) (fun hb12 => ?_)
       · have H := of_true H hb12
         obtain ⟨hc13, H⟩ := of_must H
         obtain ⟨y14, hy15, H⟩ := of_bindO H
         refine W.region env [] [⟨.tup [], [(90000, .cells [.int .i64 (y14.1)]), (90001, .cells [.po c1.isSome [roL 4 enc_Task ((c1.getD default).Crew.Tasks), roL 1 enc_ListRange ((c1.getD default).Crew.Travel), roL 3 enc_Hand ((c1.getD default).Crew.Hands), roL 1 enc_Int ((c1.getD default).next)]]), (90002, .cells [.int .i64 (y14.2)]), (90003, .cells [roL 1 enc_Int c3]), (90004, .cells [.fn (.func 68) [] [.lp 90000 0, .lp 90001 0, .lp 90002 0, .lp 90003 0, .lp 90004 0]])], 0, [90000, 90001, 90002, 90003, 90004]⟩] rfl rfl (by kernel_rfl) (.cons hc13 .nil) (.free (CtrO.sim (CtrO.ren (ih (c3.getD (x7).toNat default) s8.1 c1 (((s8.2 : Int).toNat ||| (((1 : Int) * 2 ^ (x7 : Int).toNat) : Int).toNat : Nat) : Int) c3 hy15) [(90000, 90000), (90001, 90001), (90002, 90002), (90003, 90003), (90004, 90004)]) (.cons (.refl _) (.cons (.refl _) (.cons (.refl _) (.cons (.refl _) (.cons (.refl _) (.cons (.refl _) .nil)))))) (.cons (.refl _) (.cons (.refl _) (.cons (.refl _) (.cons (.refl _) (.cons (.refl _) .nil)))))) .nil) (At.keep (ts := []) (ids := [90000, 90001, 90002, 90003, 90004]) rfl rfl ?_)
         refine At.inb ?_
         refine At.keep (ts := []) (ids := [90000, 90001, 90002, 90003, 90004]) rfl rfl ?_
         exact At.conv .nil (.cons .q (.cons .q (.cons .q (.cons .q (.cons .q .nil))))) (hQ8 (y14.1, y14.2) H)
       · have H := of_false H hb12
         refine W.skip ?_
         refine At.inb ?_
         refine At.keep (ts := []) (ids := [90000, 90001, 90002, 90003, 90004]) rfl rfl ?_
         exact At.conv .nil (.cons .q (.cons .q (.cons .q (.cons .q (.cons .q .nil))))) (hQ8 (s8.1, (((s8.2 : Int).toNat ||| (((1 : Int) * 2 ^ (x7 : Int).toNat) : Int).toNat : Nat) : Int)) H)
     · refine At.inb ?_
       refine At.oofNormal ?_
       cases H
       exact At.retL env.ty [90000, 90001, 90002, 90003, 90004] rfl rfl rfl rfl (.cons (.refl _) (.cons (.refl _) (.cons (.refl _) (.cons (.refl _) (.cons (.refl _) .nil))))) (.refl _) hval hdom hent rfl rfl
theorem c_crew_Cut (fuel : Nat) (p0 : Crew) {r : ((List Int) × Int)} (H : crew_Cut fuel p0 = some r) : Ctr Try.prog 29 [.agg [roL 4 enc_Task p0.Tasks, roL 1 enc_ListRange p0.Travel, roL 3 enc_Hand p0.Hands]] (.tup [roL 1 enc_Int r.1, .int .i64 (r.2)]) := by
 unfold crew_Cut at H
 refine Ctr.of_body (N := 64) Try.func29 (by kernel_rfl) (c := _) rfl Try.ntmps29 rfl (fun w0 h0 hval => ?_)
 refine W.rg env [1] [1] ?_
 refine W.seq ?_
 refine W.seq ?_
 obtain ⟨y1, hy2, H⟩ := of_bindO H
 refine W.region env [] [⟨.int .i64 (y1), [], 0, []⟩] rfl rfl rfl .nil (.free (c_crew_Check p0 hy2) .nil) (At.keep (ts := [1, 4]) (ids := [1]) rfl rfl ?_)
 refine At.thenC ?_
 refine W.rg env [1, 4, 17] [1] ?_
 refine W.cond rfl (fun hb3 => ?_) (fun hb3 => ?_)
 · have H := of_true H hb3
   refine W.rg env [2, 3] [] ?_
   refine W.ret ?_
   refine At.rthen ?_
   cases H
   exact At.ret env.ty rfl rfl (fun q hq => by cases hq) (Sim.tupL (.cons (Sim.nil _ _) (.cons (.refl _) .nil))) hval
 · have H := of_false H hb3
   refine W.skip ?_
   refine At.thenC ?_
   refine W.seq ?_
   obtain ⟨y4, hy5, H⟩ := of_bindO H
   refine W.region env [] [⟨.po y4.isSome [roL 4 enc_Task ((y4.getD default).Crew.Tasks), roL 1 enc_ListRange ((y4.getD default).Crew.Travel), roL 3 enc_Hand ((y4.getD default).Crew.Hands), roL 1 enc_Int ((y4.getD default).next)], [], 0, []⟩] rfl rfl rfl .nil (.free (c_crew_newPlan p0 (fun x0 => some (crew_most x0)) 46 [] [] (fun x0 r h => by cases h; exact c_crew_most x0) hy5) .nil) (At.keep (ts := [5]) (ids := [5]) rfl rfl ?_)
   refine At.thenC ?_
   refine W.seq ?_
   obtain ⟨hc6, H⟩ := of_must H
   obtain ⟨y7, hy8, H⟩ := of_bindO H
   refine W.region env [] [⟨.tup [roL 1 enc_Int y7.1, roL 1 enc_Int y7.2], [], 0, []⟩] rfl rfl rfl .nil (.free (Ctr.sim (.cons (Sim.rp_po hc6) .nil) (c_crew_plan__pair fuel (y4.getD default) hy8)) .nil) (At.keep (ts := [5, 6, 7]) (ids := [5, 6]) rfl rfl ?_)
   refine At.thenC ?_
   refine W.rg env [5, 6, 7, 8, 9] [5, 6, 8, 9] ?_
   refine W.rg env [5, 6, 7, 8, 9, 10] [5, 6, 8, 9, 10] ?_
   refine W.rg env [7, 8, 9, 10] [5, 6, 8, 9, 10] ?_
   refine W.seq ?_
   refine W.rg env [7, 8, 9, 10, 28, 29] [5, 6, 8, 9, 10] ?_
   refine W.block ?_
   refine At.keep (ts := [7, 8, 9, 10, 28, 29]) (ids := [5, 6, 8, 9, 10]) rfl rfl ?_
   refine W.len (t := 7) rfl (fun (hn9 : y7.2.length ≤ maxLen) => ?_)
   refine W.rangeGo H (fun i9 (s9 : Int × Int) => [(7, roL 1 enc_Int y7.2), (8, .lp 8 0), (9, .lp 9 0), (10, .lp 10 0), (28, .int .i64 (((y7.2.length : Nat) : Int))), (29, .int .i64 ((i9 : Int)))]) (fun i9 (s9 : Int × Int) => [(5, .cells [.po y4.isSome [roL 4 enc_Task ((y4.getD default).Crew.Tasks), roL 1 enc_ListRange ((y4.getD default).Crew.Travel), roL 3 enc_Hand ((y4.getD default).Crew.Hands), roL 1 enc_Int ((y4.getD default).next)]]), (6, .cells [roL 1 enc_Int y7.1]), (8, .cells [.int .i64 (s9.1)]), (9, .cells [.int .i64 (s9.2)]), (10, .cells [.fn (.func 68) [] [.lp 8 0, .lp 5 0, .lp 9 0, .lp 6 0, .lp 10 0]])]) (.cons .q (.cons .q (.cons .q (.cons .q (.cons .qi (.cons .qi .nil)))))) (.cons .q (.cons .q (.cons .q (.cons .q (.cons .q .nil))))) (fun k9 i9 s9 hle9 H1 H2 K0 hK9 => ?_)
   refine W.rg env [7, 8, 9, 10, 28, 29, 30] [5, 6, 8, 9, 10] ?_
   refine W.seq ?_
   refine W.cond rfl (fun hb10 => ?_) (fun hb10 => ?_)
   · have hi9 : i9 < y7.2.length := by have := of_decide_eq_true hb10; omega
     have H := H1 hi9
     refine W.skip ?_
     refine At.thenC ?_
     refine W.seq ?_
     refine W.block ?_
     refine W.rg env [7, 8, 9, 10, 11, 28, 29] [5, 6, 8, 9, 10] ?_
     refine W.sr env [] [] [7, 8, 9, 10, 11, 28, 29, 36] [5, 6, 8, 9, 10] rfl rfl rfl (.cons (⟨by omega, by omega⟩ : 0 ≤ (i9 : Int) ∧ (i9 : Int) < ((y7.2.length : Nat) : Int)) .nil) .nil ?_
     refine W.cond rfl (fun hb11 => ?_) (fun hb11 => ?_)
     · have H := of_true H hb11
       obtain ⟨y12, hy13, H⟩ := of_bindO H
       refine W.region env [] [⟨.tup [], [(8, .cells [.int .i64 (y12.1)]), (5, .cells [.po y4.isSome [roL 4 enc_Task ((y4.getD default).Crew.Tasks), roL 1 enc_ListRange ((y4.getD default).Crew.Travel), roL 3 enc_Hand ((y4.getD default).Crew.Hands), roL 1 enc_Int ((y4.getD default).next)]]), (9, .cells [.int .i64 (y12.2)]), (6, .cells [roL 1 enc_Int y7.1]), (10, .cells [.fn (.func 68) [] [.lp 8 0, .lp 5 0, .lp 9 0, .lp 6 0, .lp 10 0]])], 0, [8, 5, 9, 6, 10]⟩] rfl rfl (by kernel_rfl) .nil (.free (CtrO.sim (CtrO.ren (cl_crew_Cut_1_l fuel fuel (i9 : Int) s9.1 y4 s9.2 y7.1 hy13) [(90000, 8), (90001, 5), (90002, 9), (90003, 6), (90004, 10)]) (.cons (.refl _) (.cons (.refl _) (.cons (.refl _) (.cons (.refl _) (.cons (.refl _) (.cons (.refl _) .nil)))))) (.cons (.refl _) (.cons (.refl _) (.cons (.refl _) (.cons (.refl _) (.cons (.refl _) .nil)))))) .nil) (At.keep (ts := [7, 8, 9, 10, 28, 29]) (ids := [5, 6, 8, 9, 10]) rfl rfl ?_)
       refine At.inb ?_
       refine At.thenC ?_
       refine W.region env [] [] rfl rfl rfl (.cons (by unfold inI; have := hn9; (try unfold maxLen at this); omega) .nil) .nil (At.keep (ts := [7, 8, 9, 10, 28, 29]) (ids := [5, 6, 8, 9, 10]) rfl rfl ?_)
       refine At.thenK (At.keep (ts := [7, 8, 9, 10, 28, 29]) (ids := [5, 6, 8, 9, 10]) rfl rfl ?_)
       exact At.conv (.cons .q (.cons .q (.cons .q (.cons .q (.cons .qi (.cons .qi .nil)))))) (.cons .q (.cons .q (.cons .q (.cons .q (.cons .q .nil))))) (hK9 hi9 (y12.1, y12.2) H)
     · have H := of_false H hb11
       refine W.skip ?_
       refine At.inb ?_
       refine At.thenC ?_
       refine W.region env [] [] rfl rfl rfl (.cons (by unfold inI; have := hn9; (try unfold maxLen at this); omega) .nil) .nil (At.keep (ts := [7, 8, 9, 10, 28, 29]) (ids := [5, 6, 8, 9, 10]) rfl rfl ?_)
       refine At.thenK (At.keep (ts := [7, 8, 9, 10, 28, 29]) (ids := [5, 6, 8, 9, 10]) rfl rfl ?_)
       exact At.conv (.cons .q (.cons .q (.cons .q (.cons .q (.cons .qi (.cons .qi .nil)))))) (.cons .q (.cons .q (.cons .q (.cons .q (.cons .q .nil))))) (hK9 hi9 (s9.1, s9.2) H)
   · have H := H2 (by have := of_decide_eq_false hb10; omega)
     refine W.exit ?_
     refine At.xthen ?_
     refine At.xthen ?_
     refine At.xhere ?_
     refine At.thenC ?_
     refine W.rg env [7, 8, 9, 12] [8, 9] ?_
     refine W.seq ?_
     refine W.rg env [8, 9, 12, 42, 43] [8, 9] ?_
     refine W.block ?_
     refine At.nilOwn 12 512 3 1 (e := fun i => enc_Int (([] : List Int).getD i default)) rfl rfl ?_
     refine At.keep (ts := [8, 9, 12, 42, 43]) (ids := [8, 9, 512]) rfl rfl ?_
     obtain ⟨hn14, H⟩ := of_must H
     refine W.rangeGo H (fun i14 (s14 : (List Int)) => [(8, .lp 8 0), (9, .lp 9 0), (12, .buf 512 (s14).length), (42, .int .i64 (((y7.2.length : Nat) : Int))), (43, .int .i64 ((i14 : Int)))]) (fun i14 (s14 : (List Int)) => [(8, .cells [.int .i64 (s9.1)]), (9, .cells [.int .i64 (s9.2)]), (512, bufL 3 1 enc_Int s14)]) (.cons .q (.cons .q (.cons .qb (.cons .qi (.cons .qi .nil))))) (.cons .q (.cons .q (.cons .q .nil))) (fun k14 i14 s14 hle14 H1 H2 K0 hK14 => ?_)
     refine W.rg env [8, 9, 12, 42, 43, 44] [8, 9, 512] ?_
     refine W.seq ?_
     refine W.cond rfl (fun hb15 => ?_) (fun hb15 => ?_)
     · have hi14 : i14 < y7.2.length := by have := of_decide_eq_true hb15; omega
       have H := H1 hi14
       refine W.skip ?_
       refine At.thenC ?_
       refine W.seq ?_
       refine W.block ?_
       refine W.rg env [8, 9, 12, 13, 42, 43] [8, 9, 512] ?_
       obtain ⟨hc16, H⟩ := of_must H
       obtain ⟨hc17, H⟩ := of_must H
       obtain ⟨hc18, H⟩ := of_must H
       obtain ⟨hc19, H⟩ := of_must H
       refine W.sr env [] [] [8, 9, 12, 13, 42, 43, 57] [8, 9, 512] rfl rfl rfl (.cons hc16 (.cons hc17 (.cons hc18 (.cons (fun h => h) (.cons (fun h => h) (.cons hc19 (.cons (fun h => h) (.cons (fun h => h) (.cons (fun h => h) .nil))))))))) .nil ?_
       refine W.cond rfl (fun hb20 => ?_) (fun hb20 => ?_)
       · have H := of_true H hb20
         obtain ⟨hc21, H⟩ := of_must H
         refine W.region env [] [] rfl rfl rfl (.cons (⟨by first | rfl | (simp; done) | omega | (simp; omega), by have := hc21; first | simpa using this | (unfold room at this ⊢; simp at this ⊢; omega)⟩) .nil) .nil (At.keep (ts := [8, 9, 12, 42, 43]) (ids := [8, 9, 512]) rfl rfl ?_)
         refine At.convM (.cons (.refl _) (.cons (.refl _) (.cons (y := bufL 3 1 enc_Int (s14 ++ ([(i14 : Int)] : List Int))) (BSim.seg (Seg.push (Seg.refl enc_Int _) (Seg.lit (f := enc_Int) (sz := 1) ([(i14 : Int)] : List Int) rfl rfl (fun _ => rfl)))) .nil))) ?_
         refine At.inb ?_
         refine At.thenC ?_
         refine W.region env [] [] rfl rfl rfl (.cons (by unfold inI; have := hn14; (try unfold maxLen at this); omega) .nil) .nil (At.keep (ts := [8, 9, 12, 42, 43]) (ids := [8, 9, 512]) rfl rfl ?_)
         refine At.thenK (At.keep (ts := [8, 9, 12, 42, 43]) (ids := [8, 9, 512]) rfl rfl ?_)
         exact At.conv (.cons .q (.cons .q (.cons .qb (.cons .qi (.cons .qi .nil))))) (.cons .q (.cons .q (.cons .q .nil))) (hK14 hi14 (s14 ++ ([(i14 : Int)] : List Int)) H)
       · have H := of_false H hb20
         refine W.skip ?_
         refine At.inb ?_
         refine At.thenC ?_
         refine W.region env [] [] rfl rfl rfl (.cons (by unfold inI; have := hn14; (try unfold maxLen at this); omega) .nil) .nil (At.keep (ts := [8, 9, 12, 42, 43]) (ids := [8, 9, 512]) rfl rfl ?_)
         refine At.thenK (At.keep (ts := [8, 9, 12, 42, 43]) (ids := [8, 9, 512]) rfl rfl ?_)
         exact At.conv (.cons .q (.cons .q (.cons .qb (.cons .qi (.cons .qi .nil))))) (.cons .q (.cons .q (.cons .q .nil))) (hK14 hi14 s14 H)
     · have H := H2 (by have := of_decide_eq_false hb15; omega)
       refine W.exit ?_
       refine At.xthen ?_
       refine At.xthen ?_
       refine At.xhere ?_
       refine At.thenC ?_
       refine W.rg env [2, 3] [512] ?_
       refine W.ret ?_
       cases H
       exact At.ret env.ty rfl rfl (fun q hq => by cases hq; exact (by first | rfl | (simp; done) | omega | (simp; omega))) (.refl _) hval
theorem c_gasolierlaw04_team  : Ctr Try.prog 51 [] (.agg [roL 4 enc_Task ((gasolierlaw04_team).Tasks), roL 1 enc_ListRange ((gasolierlaw04_team).Travel), roL 3 enc_Hand ((gasolierlaw04_team).Hands)]) := by
 obtain ⟨r, H⟩ : ∃ r, gasolierlaw04_team = r := ⟨_, rfl⟩
 rw [H]
 unfold gasolierlaw04_team at H
 refine Ctr.of_body (N := 17) Try.func51 (by kernel_rfl) (c := _) rfl Try.ntmps51 rfl (fun w0 h0 hval => ?_)
 refine W.rg env [0] [0] ?_
 refine W.rg env [0] [0] ?_
 refine W.ret ?_
 cases H
 exact At.ret env.ty rfl rfl (fun q hq => by cases hq) (Sim.aggL (.cons (Sim.lit (f := enc_Task) ([(⟨1, 0, 300, 2⟩ : Task), (⟨2, 1, 320, 2⟩ : Task), (⟨3, 0, 325, 2⟩ : Task), (⟨4, 1, 350, 2⟩ : Task)] : List Task) rfl rfl (fun _ => rfl)) (.cons (Sim.lit2 (f := enc_ListRange) ([([(⟨0, 0⟩ : Range), (⟨10, 20⟩ : Range)] : List Range), ([(⟨10, 20⟩ : Range), (⟨0, 0⟩ : Range)] : List Range)] : List (List Range)) (.cons (Sim.lit (f := enc_Range) ([(⟨0, 0⟩ : Range), (⟨10, 20⟩ : Range)] : List Range) rfl rfl (fun _ => rfl)) (.cons (Sim.lit (f := enc_Range) ([(⟨10, 20⟩ : Range), (⟨0, 0⟩ : Range)] : List Range) rfl rfl (fun _ => rfl)) .nil)) rfl rfl (fun _ => rfl)) (.cons (Sim.lit (f := enc_Hand) ([(⟨7, 290, 400⟩ : Hand), (⟨8, 310, 330⟩ : Hand)] : List Hand) rfl rfl (fun _ => rfl)) .nil)))) hval
theorem c_crew_Slack (fuel : Nat) (p0 : Crew) (p1 : (List (List Int))) {r : (Int × Int)} (H : crew_Slack fuel p0 p1 = some r) : Ctr Try.prog 9 [.agg [roL 4 enc_Task p0.Tasks, roL 1 enc_ListRange p0.Travel, roL 3 enc_Hand p0.Hands], roL 1 enc_ListInt p1] (.tup [.int .i64 (r.1), .int .i64 (r.2)]) := by
 unfold crew_Slack at H
 refine Ctr.of_body (N := 57) Try.func9 (by kernel_rfl) (c := _) rfl Try.ntmps9 rfl (fun w0 h0 hval => ?_)
 refine W.rg env [1, 2] [2] ?_
 refine W.seq ?_
 refine W.seq ?_
 obtain ⟨y1, hy2, H⟩ := of_bindO H
 refine W.region env [] [⟨.tup [.po y1.1.isSome [roL 4 enc_Task ((y1.1.getD default).Crew.Tasks), roL 1 enc_ListRange ((y1.1.getD default).Crew.Travel), roL 3 enc_Hand ((y1.1.getD default).Crew.Hands), roL 1 enc_Int ((y1.1.getD default).next)], .int .i64 (y1.2)], [], 0, []⟩] rfl rfl rfl .nil (.free (c_crew_asked p0 p1 hy2) .nil) (At.keep (ts := [1, 2, 7]) (ids := [2]) rfl rfl ?_)
 refine At.thenC ?_
 refine W.rg env [1, 2, 7, 20] [2] ?_
 refine W.cond rfl (fun hb3 => ?_) (fun hb3 => ?_)
 · have H := of_true H hb3
   refine W.rg env [4, 5] [] ?_
   refine W.ret ?_
   refine At.rthen ?_
   cases H
   exact At.ret env.ty rfl rfl (fun q hq => by cases hq) (.refl _) hval
 · have H := of_false H hb3
   refine W.skip ?_
   refine At.thenC ?_
   refine W.rg env [1, 2, 8] [2] ?_
   refine W.seq ?_
   refine W.rg env [2, 8, 22, 23, 24] [2] ?_
   refine W.block ?_
   refine At.keep (ts := [2, 8, 22, 23, 24]) (ids := [2]) rfl rfl ?_
   refine W.len (t := 22) rfl (fun (hn4 : p1.length ≤ maxLen) => ?_)
   refine W.rangeGo H (fun i4 (s4 : Int) => [(2, .lp 2 0), (8, .int .i64 (s4)), (22, roL 1 enc_ListInt p1), (23, .int .i64 (((p1.length : Nat) : Int))), (24, .int .i64 ((i4 : Int)))]) (fun i4 (s4 : Int) => [(2, .cells [roL 4 enc_Task p0.Tasks, roL 1 enc_ListRange p0.Travel, roL 3 enc_Hand p0.Hands])]) (.cons .q (.cons .qi (.cons .q (.cons .qi (.cons .qi .nil))))) (.cons .q .nil) (fun k4 i4 s4 hle4 H1 H2 K0 hK4 => ?_)
   refine W.rg env [2, 8, 22, 23, 24, 25] [2] ?_
   refine W.seq ?_
   refine W.cond rfl (fun hb5 => ?_) (fun hb5 => ?_)
   · have hi4 : i4 < p1.length := by have := of_decide_eq_true hb5; omega
     have H := H1 hi4
     refine W.skip ?_
     refine At.thenC ?_
     refine W.seq ?_
     refine W.block ?_
     refine W.sr env [] [] [2, 8, 10, 22, 23, 24] [2] rfl rfl rfl (.cons (⟨by omega, by omega⟩ : 0 ≤ (i4 : Int) ∧ (i4 : Int) < ((p1.length : Nat) : Int)) .nil) .nil ?_
     refine W.rg env [2, 8, 10, 11, 22, 23, 24] [2] ?_
     refine W.block ?_
     refine At.keep (ts := [2, 8, 10, 11, 22, 23, 24]) (ids := [2]) rfl rfl ?_
     refine W.loopGo H (fun (s6 : Int × Int) => [(2, .lp 2 0), (8, .int .i64 (s6.2)), (10, roL 1 enc_Int (p1.getD i4 default)), (11, .int .i64 (s6.1)), (22, roL 1 enc_ListInt p1), (23, .int .i64 (((p1.length : Nat) : Int))), (24, .int .i64 ((i4 : Int)))]) (fun (s6 : Int × Int) => [(2, .cells [roL 4 enc_Task p0.Tasks, roL 1 enc_ListRange p0.Travel, roL 3 enc_Hand p0.Hands])]) (.cons .q (.cons .qi (.cons .q (.cons .qi (.cons .q (.cons .qi (.cons .qi .nil))))))) (.cons .q .nil) (fun k6 s6 H K0 hK6 => ?_)
     refine W.seq ?_
     refine W.rg env [2, 8, 10, 11, 22, 23, 24, 31] [2] ?_
     refine W.cond rfl (fun hb7 => ?_) (fun hb7 => ?_)
     · have H := of_true H hb7
       refine W.skip ?_
       refine At.thenC ?_
       refine W.seq ?_
       refine W.block ?_
       refine W.seq ?_
       obtain ⟨hc8, H⟩ := of_must H
       obtain ⟨hc9, H⟩ := of_must H
       obtain ⟨hc10, H⟩ := of_must H
       obtain ⟨y11, hy12, H⟩ := of_bindO H
       refine W.region env [] [⟨.int .i64 (y11), [], 0, []⟩] rfl rfl (by kernel_rfl) (.cons hc8 (.cons hc9 (.cons hc10 .nil))) (.free (c_crew_spare p0 ((p1.getD i4 default).getD ((s6.1 - 1)).toNat default) ((p1.getD i4 default).getD (s6.1).toNat default) (fun x0 => some (crew_most x0)) 46 [] [] (fun x0 r h => by cases h; exact c_crew_most x0) hy12) .nil) (At.keep (ts := [2, 8, 10, 11, 12, 22, 23, 24]) (ids := [2]) rfl rfl ?_)
       refine At.thenC ?_
       refine W.sr env [] [] [2, 8, 10, 11, 12, 22, 23, 24, 51] [2] rfl rfl rfl (.cons (fun h => h) (.cons (fun h => h) (.cons (fun h => by rw [h]; rfl) .nil))) .nil ?_
       refine W.cond rfl (fun hb13 => ?_) (fun hb13 => ?_)
       · have H := of_true H hb13
         refine W.region env [] [] rfl rfl rfl .nil .nil (At.keep (ts := [2, 8, 10, 11, 22, 23, 24]) (ids := [2]) rfl rfl ?_)
         refine At.inb ?_
         refine At.thenC ?_
         obtain ⟨hc14, H⟩ := of_must H
         refine W.region env [] [] rfl rfl rfl (.cons hc14 .nil) .nil (At.keep (ts := [2, 8, 10, 11, 22, 23, 24]) (ids := [2]) rfl rfl ?_)
         refine At.thenK (At.keep (ts := [2, 8, 10, 11, 22, 23, 24]) (ids := [2]) rfl rfl ?_)
         exact At.conv (.cons .q (.cons .qi (.cons .q (.cons .qi (.cons .q (.cons .qi (.cons .qi .nil))))))) (.cons .q .nil) (hK6 ((s6.1 + 1), y11) H)
       · have H := of_false H hb13
         refine W.skip ?_
         refine At.inb ?_
         refine At.thenC ?_
         obtain ⟨hc15, H⟩ := of_must H
         refine W.region env [] [] rfl rfl rfl (.cons hc15 .nil) .nil (At.keep (ts := [2, 8, 10, 11, 22, 23, 24]) (ids := [2]) rfl rfl ?_)
         refine At.thenK (At.keep (ts := [2, 8, 10, 11, 22, 23, 24]) (ids := [2]) rfl rfl ?_)
         exact At.conv (.cons .q (.cons .qi (.cons .q (.cons .qi (.cons .q (.cons .qi (.cons .qi .nil))))))) (.cons .q .nil) (hK6 ((s6.1 + 1), s6.2) H)
     · have H := of_false H hb7
       refine W.exit ?_
       refine At.xthen ?_
       refine At.xthen ?_
       refine At.xhere ?_
       refine At.inb ?_
       refine At.thenC ?_
       refine W.region env [] [] rfl rfl rfl (.cons (by unfold inI; have := hn4; (try unfold maxLen at this); omega) .nil) .nil (At.keep (ts := [2, 8, 22, 23, 24]) (ids := [2]) rfl rfl ?_)
       refine At.thenK (At.keep (ts := [2, 8, 22, 23, 24]) (ids := [2]) rfl rfl ?_)
       exact At.conv (.cons .q (.cons .qi (.cons .q (.cons .qi (.cons .qi .nil))))) (.cons .q .nil) (hK4 hi4 s6.2 H)
   · have H := H2 (by have := of_decide_eq_false hb5; omega)
     refine W.exit ?_
     refine At.xthen ?_
     refine At.xthen ?_
     refine At.xhere ?_
     refine At.thenC ?_
     refine W.seq ?_
     refine W.rg env [8, 55] [] ?_
     refine W.cond rfl (fun hb16 => ?_) (fun hb16 => ?_)
     · have H := of_true H hb16
       refine W.rg env [4, 5] [] ?_
       refine W.ret ?_
       refine At.rthen ?_
       cases H
       exact At.ret env.ty rfl rfl (fun q hq => by cases hq) (.refl _) hval
     · have H := of_false H hb16
       refine W.skip ?_
       refine At.thenC ?_
       refine W.rg env [4, 5] [] ?_
       refine W.ret ?_
       cases H
       exact At.ret env.ty rfl rfl (fun q hq => by cases hq) (.refl _) hval
theorem c_slices_IndexFunc_int (p0 : (List Int)) (p1 : Int → Option Bool) (p1_g : Nat) (p1_a p1_b : List AV) (p1_h : ∀ x0 r, p1 x0 = some r → Ctr Try.prog p1_g (p1_a ++ ([.int .i64 (x0)] ++ p1_b)) (.bool (r))) {r : Int} (H : slices_IndexFunc_int p0 p1 = some r) : Ctr Try.prog 101 [roL 1 enc_Int p0, .clo (.func p1_g) p1_a p1_b] (.int .i64 (r)) := by
 unfold slices_IndexFunc_int at H
 refine Ctr.of_body (N := 19) Try.func101 (by kernel_rfl) (c := _) rfl Try.ntmps101 rfl (fun w0 h0 hval => ?_)
 refine W.rg env [0, 1] [] ?_
 refine W.seq ?_
 refine W.rg env [0, 1, 7, 8] [] ?_
 refine W.block ?_
 refine At.keep (ts := [0, 1, 7, 8]) (ids := []) rfl rfl ?_
 refine W.len (t := 0) rfl (fun (hn1 : p0.length ≤ maxLen) => ?_)
 refine W.rangeGo H (fun i1 (s1 : Unit) => [(0, roL 1 enc_Int p0), (1, .clo (.func p1_g) p1_a p1_b), (7, .int .i64 (((p0.length : Nat) : Int))), (8, .int .i64 ((i1 : Int)))]) (fun i1 (s1 : Unit) => []) (.cons .q (.cons .q (.cons .qi (.cons .qi .nil)))) .nil (fun k1 i1 s1 hle1 H1 H2 K0 hK1 => ?_)
 refine W.rg env [0, 1, 7, 8, 9] [] ?_
 refine W.seq ?_
 refine W.cond rfl (fun hb2 => ?_) (fun hb2 => ?_)
 · have hi1 : i1 < p0.length := by have := of_decide_eq_true hb2; omega
   have H := H1 hi1
   refine W.skip ?_
   refine At.thenC ?_
   refine W.seq ?_
   refine W.block ?_
   refine W.rg env [0, 1, 5, 7, 8] [] ?_
   refine W.seq ?_
   obtain ⟨y3, hy4, H⟩ := of_bindO H
   refine W.region env [] [⟨.bool (y3), [], 0, []⟩] rfl rfl rfl (.cons (⟨by omega, by omega⟩ : 0 ≤ (i1 : Int) ∧ (i1 : Int) < ((p0.length : Nat) : Int)) .nil) (.free (p1_h (p0.getD i1 default) _ hy4) .nil) (At.keep (ts := [0, 1, 5, 7, 8, 16]) (ids := []) rfl rfl ?_)
   refine At.thenC ?_
   refine W.cond rfl (fun hb5 => ?_) (fun hb5 => ?_)
   · have H := of_true H hb5
     refine W.rg env [4] [] ?_
     refine W.ret ?_
     refine At.rinb ?_
     refine At.rthen ?_
     refine At.rthen ?_
     refine At.rinb ?_
     refine At.rthen ?_
     cases H
     exact At.ret env.ty rfl rfl (fun q hq => by cases hq) (.refl _) hval
   · have H := of_false H hb5
     refine W.skip ?_
     refine At.inb ?_
     refine At.thenC ?_
     refine W.region env [] [] rfl rfl rfl (.cons (by unfold inI; have := hn1; (try unfold maxLen at this); omega) .nil) .nil (At.keep (ts := [0, 1, 7, 8]) (ids := []) rfl rfl ?_)
     refine At.thenK (At.keep (ts := [0, 1, 7, 8]) (ids := []) rfl rfl ?_)
     exact At.conv (.cons .q (.cons .q (.cons .qi (.cons .qi .nil)))) .nil (hK1 hi1 () H)
 · have H := H2 (by have := of_decide_eq_false hb2; omega)
   refine W.exit ?_
   refine At.xthen ?_
   refine At.xthen ?_
   refine At.xhere ?_
   refine At.thenC ?_
   refine W.rg env [4] [] ?_
   refine W.ret ?_
   cases H
   exact At.ret env.ty rfl rfl (fun q hq => by cases hq) (.refl _) hval
end Go.Sp
