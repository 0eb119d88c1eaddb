/- Printed by gen.py. -/
import Derived.Test.YtnaodipmfaglfaaGreatFr4
import Derived.Test.YtnaodipmfaglfaaGreatFr3
import Derived.Test.YtnaodipmfaglfaaGreatProg
import Derived.KernelRfl
set_option linter.all false
set_option maxRecDepth 100000
set_option maxHeartbeats 1000000
set_option linter.unusedVariables false
namespace Go.Sp
open Go Go.Av Go.Proofs
def enc_Int (x : Int) : List AV := [.int .i64 (x)]
def enc_Bool (x : Bool) : List AV := [.bool (x)]
def enc_ListInt (x : (List Int)) : List AV := [roL 1 enc_Int x]
def enc_Task (x : Task) : List AV := [.int .i64 (x.Lamp), .int .i64 (x.Place), .int .i64 (x.At), .int .i64 (x.Serve)]
def enc_Hand (x : Hand) : List AV := [.int .i64 (x.Id), .int .i64 (x.From), .int .i64 (x.To)]
def enc_Range (x : Range) : List AV := [.int .i64 (x.Lo), .int .i64 (x.Hi)]
def enc_ListRange (x : (List Range)) : List AV := [roL 2 enc_Range x]
def tids : List Nat := [3, 4, 22, 23, 24, 26, 27, 28, 30, 31, 41, 43, 55, 57, 61, 67, 71, 84, 89, 93, 106, 114, 130, 135]
def Γ : Tys := [(3, ⟨.int .i64, [.int .i64 0], 1, 8⟩),
 (4, ⟨.bool, [.bool false], 1, 1⟩),
 (22, ⟨.slice 41, [.slice none 0 0], 1, 24⟩),
 (23, ⟨.slice 106, [.slice none 0 0], 1, 24⟩),
 (24, ⟨.slice 43, [.slice none 0 0], 1, 24⟩),
 (26, ⟨.struct [(0, 22), (1, 23), (2, 24)], [.slice none 0 0, .slice none 0 0, .slice none 0 0], 3, 72⟩),
 (27, ⟨.slice 28, [.slice none 0 0], 1, 24⟩),
 (28, ⟨.slice 3, [.slice none 0 0], 1, 24⟩),
 (30, ⟨.struct [(0, 27), (1, 28), (2, 3), (3, 27), (4, 28)], [.slice none 0 0, .slice none 0 0, .int .i64 0, .slice none 0 0, .slice none 0 0], 5, 104⟩),
 (31, ⟨.int .i64, [.int .i64 0], 1, 8⟩),
 (41, ⟨.struct [(0, 3), (1, 3), (2, 3), (3, 3)], [.int .i64 0, .int .i64 0, .int .i64 0, .int .i64 0], 4, 32⟩),
 (43, ⟨.struct [(0, 3), (1, 3), (2, 3)], [.int .i64 0, .int .i64 0, .int .i64 0], 3, 24⟩),
 (55, ⟨.ptr 61, [.pointer none], 1, 8⟩),
 (57, ⟨.func, [.nilFunc], 1, 8⟩),
 (61, ⟨.struct [(0, 26), (3, 28)], [.slice none 0 0, .slice none 0 0, .slice none 0 0, .slice none 0 0], 4, 96⟩),
 (67, ⟨.struct [(0, 55), (1, 27)], [.pointer none, .slice none 0 0], 2, 32⟩),
 (71, ⟨.slice 4, [.slice none 0 0], 1, 24⟩),
 (84, ⟨.func, [.nilFunc], 1, 8⟩),
 (89, ⟨.func, [.nilFunc], 1, 8⟩),
 (93, ⟨.struct [(0, 3), (1, 3)], [.int .i64 0, .int .i64 0], 2, 16⟩),
 (106, ⟨.slice 93, [.slice none 0 0], 1, 24⟩),
 (114, ⟨.struct [(0, 26), (3, 27), (4, 28), (5, 71)], [.slice none 0 0, .slice none 0 0, .slice none 0 0, .slice none 0 0, .slice none 0 0, .slice none 0 0], 6, 144⟩),
 (130, ⟨.ptr 114, [.pointer none], 1, 8⟩),
 (135, ⟨.int .u64, [.int .u64 0], 1, 8⟩)]
theorem Γ_ok : mkTys Tryz.prog tids = some Γ := by kernel_rfl
theorem env : Env Tryz.prog Γ := ⟨mkTys_sound Γ_ok, by decide +kernel, by kernel_rfl⟩
def sort_ren : Go.Shelf.Ren where
 f := fun x => match x with
   | 189 => 95
   | 125 => 105
   | 257 => 104
   | 128 => 119
   | 129 => 120
   | 294 => 110
   | 295 => 111
   | 296 => 112
   | 297 => 113
   | 298 => 114
   | 299 => 115
   | 216 => 116
   | 300 => 117
   | 301 => 118
   | 328 => 123
   | 329 => 124
   | 330 => 125
   | 331 => 126
   | 332 => 127
   | 215 => 106
   | 343 => 128
   | n => n
 t := fun x => match x with
   | 28 => 28
   | 3 => 3
   | 46 => 135
   | 0 => 0
   | 51 => 147
   | 53 => 149
   | 4 => 4
   | 183 => 140
   | 182 => 139
   | 131 => 99
   | 5 => 5
   | 9 => 9
   | 218 => 151
   | 222 => 155
   | 228 => 157
   | 229 => 158
   | n => n
 g := fun x => x
theorem sort_lays : Go.Proofs.Lays.n189 Tryz.prog sort_ren :=
 {
   mixed := by kernel_rfl,
   f125 := Tryz.func105.trans (congrArg some (by kernel_rfl)),
   f128 := Tryz.func119.trans (congrArg some (by kernel_rfl)),
   f129 := Tryz.func120.trans (congrArg some (by kernel_rfl)),
   f189 := Tryz.func95.trans (congrArg some (by kernel_rfl)),
   f215 := Tryz.func106.trans (congrArg some (by kernel_rfl)),
   f216 := Tryz.func116.trans (congrArg some (by kernel_rfl)),
   f257 := Tryz.func104.trans (congrArg some (by kernel_rfl)),
   f294 := Tryz.func110.trans (congrArg some (by kernel_rfl)),
   f295 := Tryz.func111.trans (congrArg some (by kernel_rfl)),
   f296 := Tryz.func112.trans (congrArg some (by kernel_rfl)),
   f297 := Tryz.func113.trans (congrArg some (by kernel_rfl)),
   f298 := Tryz.func114.trans (congrArg some (by kernel_rfl)),
   f299 := Tryz.func115.trans (congrArg some (by kernel_rfl)),
   f300 := Tryz.func117.trans (congrArg some (by kernel_rfl)),
   f301 := Tryz.func118.trans (congrArg some (by kernel_rfl)),
   f328 := Tryz.func123.trans (congrArg some (by kernel_rfl)),
   f329 := Tryz.func124.trans (congrArg some (by kernel_rfl)),
   f330 := Tryz.func125.trans (congrArg some (by kernel_rfl)),
   f331 := Tryz.func126.trans (congrArg some (by kernel_rfl)),
   f332 := Tryz.func127.trans (congrArg some (by kernel_rfl)),
   f343 := Tryz.func128.trans (congrArg some (by kernel_rfl)),
   t0 := Tryz.underlying0,
   a0 := Tryz.isAgg0,
   z0 := Tryz.sizeOf0,
   v0 := Tryz.zeroValue0,
   t3 := Tryz.underlying3,
   a3 := Tryz.isAgg3,
   z3 := Tryz.sizeOf3,
   v3 := Tryz.zeroValue3,
   t4 := Tryz.underlying4,
   a4 := Tryz.isAgg4,
   z4 := Tryz.sizeOf4,
   v4 := Tryz.zeroValue4,
   t5 := Tryz.underlying5,
   a5 := Tryz.isAgg5,
   z5 := Tryz.sizeOf5,
   v5 := Tryz.zeroValue5,
   t9 := Tryz.underlying9,
   a9 := Tryz.isAgg9,
   z9 := Tryz.sizeOf9,
   v9 := Tryz.zeroValue9,
   t28 := Tryz.underlying28,
   a28 := Tryz.isAgg28,
   z28 := Tryz.sizeOf28,
   v28 := Tryz.zeroValue28,
   t46 := Tryz.underlying135,
   a46 := Tryz.isAgg135,
   z46 := Tryz.sizeOf135,
   v46 := Tryz.zeroValue135,
   t51 := Tryz.underlying147,
   a51 := Tryz.isAgg147,
   z51 := Tryz.sizeOf147,
   v51 := Tryz.zeroValue147,
   t53 := Tryz.underlying149,
   a53 := Tryz.isAgg149,
   z53 := Tryz.sizeOf149,
   v53 := Tryz.zeroValue149,
   t131 := Tryz.underlying99,
   a131 := Tryz.isAgg99,
   z131 := Tryz.sizeOf99,
   v131 := Tryz.zeroValue99,
   t182 := Tryz.underlying139,
   a182 := Tryz.isAgg139,
   z182 := Tryz.sizeOf139,
   v182 := Tryz.zeroValue139,
   t183 := Tryz.underlying140,
   a183 := Tryz.isAgg140,
   z183 := Tryz.sizeOf140,
   v183 := Tryz.zeroValue140,
   t218 := Tryz.underlying151,
   a218 := Tryz.isAgg151,
   z218 := Tryz.sizeOf151,
   v218 := Tryz.zeroValue151,
   t222 := Tryz.underlying155,
   a222 := Tryz.isAgg155,
   z222 := Tryz.sizeOf155,
   v222 := Tryz.zeroValue155,
   t228 := Tryz.underlying157,
   a228 := Tryz.isAgg157,
   z228 := Tryz.sizeOf157,
   v228 := Tryz.zeroValue157,
   t229 := Tryz.underlying158,
   a229 := Tryz.isAgg158,
   z229 := Tryz.sizeOf158,
   v229 := Tryz.zeroValue158 }
theorem c_crew_in (p0 : Int) (p1 : Int) (p2 : Int) : Ctr Tryz.prog 59 [.int .i64 (p0), .int .i64 (p1), .int .i64 (p2)] (.bool ((crew_in p0 p1 p2))) := by
 obtain ⟨r, H⟩ : ∃ r, crew_in p0 p1 p2 = r := ⟨_, rfl⟩
 rw [H]
 unfold crew_in at H
 refine Ctr.of_body (N := 15) Tryz.func59 (by kernel_rfl) (c := _) rfl Tryz.ntmps59 rfl (fun w0 h0 hval => ?_)
 refine W.rg env [0, 1, 2] [] ?_
 refine W.sr env [] [] [6] [] rfl rfl rfl (.cons (fun h => h) (.cons (fun h => h) (.cons (fun h => h) .nil))) .nil ?_
 refine W.ret ?_
 cases H
 exact At.ret env.ty rfl rfl (fun q hq => by cases hq) (.refl _) hval
theorem c_crew_isTravel (p0 : (List (List Range))) {r : Bool} (H : crew_isTravel p0 = some r) : Ctr Tryz.prog 79 [roL 1 enc_ListRange p0] (.bool (r)) := by
 unfold crew_isTravel at H
 refine Ctr.of_body (N := 124) Tryz.func79 (by kernel_rfl) (c := _) rfl Tryz.ntmps79 rfl (fun w0 h0 hval => ?_)
 refine W.rg env [0] [] ?_
 refine W.seq ?_
 refine W.rg env [0, 12] [] ?_
 refine W.cond rfl (fun hb1 => ?_) (fun hb1 => ?_)
 · have H := of_true H hb1
   refine W.rg env [2] [] ?_
   refine W.ret ?_
   refine At.rthen ?_
   cases H
   exact At.ret env.ty rfl rfl (fun q hq => by cases hq) (.refl _) hval
 · have H := of_false H hb1
   refine W.skip ?_
   refine At.thenC ?_
   refine W.seq ?_
   refine W.rg env [0, 13, 14, 15] [] ?_
   refine W.block ?_
   refine At.keep (ts := [0, 13, 14, 15]) (ids := []) rfl rfl ?_
   refine W.len (t := 13) rfl (fun (hn2 : p0.length ≤ maxLen) => ?_)
   refine W.rangeGo H (fun i2 (s2 : Unit) => [(0, roL 1 enc_ListRange p0), (13, roL 1 enc_ListRange p0), (14, .int .i64 (((p0.length : Nat) : Int))), (15, .int .i64 ((i2 : Int)))]) (fun i2 (s2 : Unit) => []) (.cons .q (.cons .q (.cons .qi (.cons .qi .nil)))) .nil (fun k2 i2 s2 hle2 H1 H2 K0 hK2 => ?_)
   refine W.rg env [0, 13, 14, 15, 16] [] ?_
   refine W.seq ?_
   refine W.cond rfl (fun hb3 => ?_) (fun hb3 => ?_)
   · have hi2 : i2 < p0.length := by have := of_decide_eq_true hb3; omega
     have H := H1 hi2
     refine W.skip ?_
     refine At.thenC ?_
     refine W.seq ?_
     refine W.block ?_
     refine W.sr env [] [] [0, 3, 4, 13, 14, 15] [] rfl rfl rfl (.cons (⟨by omega, by omega⟩ : 0 ≤ (i2 : Int) ∧ (i2 : Int) < ((p0.length : Nat) : Int)) .nil) .nil ?_
     refine W.seq ?_
     obtain ⟨hc4, H⟩ := of_must H
     refine W.sr env [] [] [0, 4, 13, 14, 15, 32] [] rfl rfl rfl (.cons hc4 (.cons (fun h => h) (.cons (fun h => h) (.cons (fun h => h) (.cons (fun h => h) (.cons (fun h => h) (.cons (fun h => by rw [h]; rfl) .nil))))))) .nil ?_
     refine W.cond rfl (fun hb5 => ?_) (fun hb5 => ?_)
     · have H := of_true H hb5
       refine W.rg env [2] [] ?_
       refine W.ret ?_
       refine At.rthen ?_
       refine At.rinb ?_
       refine At.rthen ?_
       refine At.rthen ?_
       refine At.rinb ?_
       refine At.rthen ?_
       cases H
       exact At.ret env.ty rfl rfl (fun q hq => by cases hq) (.refl _) hval
     · have H := of_false H hb5
       refine W.skip ?_
       refine At.thenC ?_
       refine W.rg env [0, 13, 14, 15, 33, 34, 35] [] ?_
       refine W.block ?_
       refine At.keep (ts := [0, 13, 14, 15, 33, 34, 35]) (ids := []) rfl rfl ?_
       refine W.len (t := 33) rfl (fun (hn6 : (p0.getD i2 default).length ≤ maxLen) => ?_)
       refine W.rangeGo H (fun i6 (s6 : Unit) => [(0, roL 1 enc_ListRange p0), (13, roL 1 enc_ListRange p0), (14, .int .i64 (((p0.length : Nat) : Int))), (15, .int .i64 ((i2 : Int))), (33, roL 2 enc_Range (p0.getD i2 default)), (34, .int .i64 ((((p0.getD i2 default).length : Nat) : Int))), (35, .int .i64 ((i6 : Int)))]) (fun i6 (s6 : Unit) => []) (.cons .q (.cons .q (.cons .qi (.cons .qi (.cons .q (.cons .qi (.cons .qi .nil))))))) .nil (fun k6 i6 s6 hle6 H1 H2 K0 hK6 => ?_)
       refine W.rg env [0, 13, 14, 15, 33, 34, 35, 36] [] ?_
       refine W.seq ?_
       refine W.cond rfl (fun hb7 => ?_) (fun hb7 => ?_)
       · have hi6 : i6 < (p0.getD i2 default).length := by have := of_decide_eq_true hb7; omega
         have H := H1 hi6
         refine W.skip ?_
         refine At.thenC ?_
         refine W.seq ?_
         refine W.block ?_
         refine W.sr env [] [] [0, 6, 13, 14, 15, 33, 34, 35] [6] rfl rfl rfl (.cons (⟨by omega, by omega⟩ : 0 ≤ (i6 : Int) ∧ (i6 : Int) < (((p0.getD i2 default).length : Nat) : Int)) .nil) .nil ?_
         refine W.sr env [] [⟨.bool ((crew_in (((p0.getD i2 default).getD i6 default).Lo) 0 (((p0.getD i2 default).getD i6 default).Hi))), [], 0, []⟩] [0, 13, 14, 15, 33, 34, 35, 49] [] rfl rfl rfl (.cons (fun h => h) (.cons (fun h => h) (.cons (fun h => by rw [h]; rfl) .nil))) (.free (c_crew_in (((p0.getD i2 default).getD i6 default).Lo) 0 (((p0.getD i2 default).getD i6 default).Hi)) .nil) ?_
         refine W.cond rfl (fun hb8 => ?_) (fun hb8 => ?_)
         · have H := of_true H hb8
           refine W.rg env [2] [] ?_
           refine W.ret ?_
           refine At.rinb ?_
           refine At.rthen ?_
           refine At.rthen ?_
           refine At.rinb ?_
           refine At.rinb ?_
           refine At.rthen ?_
           refine At.rthen ?_
           refine At.rinb ?_
           refine At.rthen ?_
           cases H
           exact At.ret env.ty rfl rfl (fun q hq => by cases hq) (.refl _) hval
         · have H := of_false H hb8
           refine W.skip ?_
           refine At.inb ?_
           refine At.thenC ?_
           refine W.region env [] [] rfl rfl rfl (.cons (by unfold inI; have := hn6; (try unfold maxLen at this); omega) .nil) .nil (At.keep (ts := [0, 13, 14, 15, 33, 34, 35]) (ids := []) rfl rfl ?_)
           refine At.thenK (At.keep (ts := [0, 13, 14, 15, 33, 34, 35]) (ids := []) rfl rfl ?_)
           exact At.conv (.cons .q (.cons .q (.cons .qi (.cons .qi (.cons .q (.cons .qi (.cons .qi .nil))))))) .nil (hK6 hi6 () H)
       · have H := H2 (by have := of_decide_eq_false hb7; omega)
         refine W.exit ?_
         refine At.xthen ?_
         refine At.xthen ?_
         refine At.xhere ?_
         refine At.inb ?_
         refine At.thenC ?_
         refine W.region env [] [] rfl rfl rfl (.cons (by unfold inI; have := hn2; (try unfold maxLen at this); omega) .nil) .nil (At.keep (ts := [0, 13, 14, 15]) (ids := []) rfl rfl ?_)
         refine At.thenK (At.keep (ts := [0, 13, 14, 15]) (ids := []) rfl rfl ?_)
         exact At.conv (.cons .q (.cons .q (.cons .qi (.cons .qi .nil)))) .nil (hK2 hi2 () H)
   · have H := H2 (by have := of_decide_eq_false hb3; omega)
     refine W.exit ?_
     refine At.xthen ?_
     refine At.xthen ?_
     refine At.xhere ?_
     refine At.thenC ?_
     refine W.seq ?_
     refine W.rg env [0, 53, 54] [] ?_
     refine W.block ?_
     refine At.keep (ts := [0, 53, 54]) (ids := []) rfl rfl ?_
     refine W.len (t := 0) rfl (fun (hn9 : p0.length ≤ maxLen) => ?_)
     refine W.rangeGo H (fun i9 (s9 : Unit) => [(0, roL 1 enc_ListRange p0), (53, .int .i64 (((p0.length : Nat) : Int))), (54, .int .i64 ((i9 : Int)))]) (fun i9 (s9 : Unit) => []) (.cons .q (.cons .qi (.cons .qi .nil))) .nil (fun k9 i9 s9 hle9 H1 H2 K0 hK9 => ?_)
     refine W.rg env [0, 53, 54, 55] [] ?_
     refine W.seq ?_
     refine W.cond rfl (fun hb10 => ?_) (fun hb10 => ?_)
     · have hi9 : i9 < p0.length := by have := of_decide_eq_true hb10; omega
       have H := H1 hi9
       refine W.skip ?_
       refine At.thenC ?_
       refine W.seq ?_
       refine W.block ?_
       refine W.rg env [0, 7, 53, 54] [] ?_
       refine W.rg env [0, 7, 53, 54, 58, 59] [] ?_
       refine W.block ?_
       refine At.keep (ts := [0, 7, 53, 54, 58, 59]) (ids := []) rfl rfl ?_
       refine W.len (t := 0) rfl (fun (hn11 : p0.length ≤ maxLen) => ?_)
       refine W.rangeGo H (fun i11 (s11 : Unit) => [(0, roL 1 enc_ListRange p0), (7, .int .i64 ((i9 : Int))), (53, .int .i64 (((p0.length : Nat) : Int))), (54, .int .i64 ((i9 : Int))), (58, .int .i64 (((p0.length : Nat) : Int))), (59, .int .i64 ((i11 : Int)))]) (fun i11 (s11 : Unit) => []) (.cons .q (.cons .qi (.cons .qi (.cons .qi (.cons .qi (.cons .qi .nil)))))) .nil (fun k11 i11 s11 hle11 H1 H2 K0 hK11 => ?_)
       refine W.rg env [0, 7, 53, 54, 58, 59, 60] [] ?_
       refine W.seq ?_
       refine W.cond rfl (fun hb12 => ?_) (fun hb12 => ?_)
       · have hi11 : i11 < p0.length := by have := of_decide_eq_true hb12; omega
         have H := H1 hi11
         refine W.skip ?_
         refine At.thenC ?_
         refine W.seq ?_
         refine W.block ?_
         refine W.rg env [0, 7, 8, 53, 54, 58, 59] [] ?_
         refine W.rg env [0, 7, 8, 53, 54, 58, 59, 63, 64] [] ?_
         refine W.block ?_
         refine At.keep (ts := [0, 7, 8, 53, 54, 58, 59, 63, 64]) (ids := []) rfl rfl ?_
         refine W.len (t := 0) rfl (fun (hn13 : p0.length ≤ maxLen) => ?_)
         refine W.rangeGo H (fun i13 (s13 : Unit) => [(0, roL 1 enc_ListRange p0), (7, .int .i64 ((i9 : Int))), (8, .int .i64 ((i11 : Int))), (53, .int .i64 (((p0.length : Nat) : Int))), (54, .int .i64 ((i9 : Int))), (58, .int .i64 (((p0.length : Nat) : Int))), (59, .int .i64 ((i11 : Int))), (63, .int .i64 (((p0.length : Nat) : Int))), (64, .int .i64 ((i13 : Int)))]) (fun i13 (s13 : Unit) => []) (.cons .q (.cons .qi (.cons .qi (.cons .qi (.cons .qi (.cons .qi (.cons .qi (.cons .qi (.cons .qi .nil))))))))) .nil (fun k13 i13 s13 hle13 H1 H2 K0 hK13 => ?_)
         refine W.rg env [0, 7, 8, 53, 54, 58, 59, 63, 64, 65] [] ?_
         refine W.seq ?_
         refine W.cond rfl (fun hb14 => ?_) (fun hb14 => ?_)
         · have hi13 : i13 < p0.length := by have := of_decide_eq_true hb14; omega
           have H := H1 hi13
           refine W.skip ?_
           refine At.thenC ?_
           refine W.seq ?_
           refine W.block ?_
           refine W.rg env [0, 7, 8, 9, 53, 54, 58, 59, 63, 64] [] ?_
           obtain ⟨hc15, H⟩ := of_must H
           obtain ⟨hc16, H⟩ := of_must H
           obtain ⟨hc17, H⟩ := of_must H
           obtain ⟨hc18, H⟩ := of_must H
           obtain ⟨hc19, H⟩ := of_must H
           obtain ⟨hc20, H⟩ := of_must H
           obtain ⟨hc21, H⟩ := of_must H
           obtain ⟨hc22, H⟩ := of_must H
           refine W.sr env [] [] [0, 7, 8, 53, 54, 58, 59, 63, 64, 120] [] rfl rfl (by first | rfl | kernel_rfl) (.cons (⟨by omega, by omega⟩ : 0 ≤ (i9 : Int) ∧ (i9 : Int) < ((p0.length : Nat) : Int)) (.cons hc15 (.cons (⟨by omega, by omega⟩ : 0 ≤ (i9 : Int) ∧ (i9 : Int) < ((p0.length : Nat) : Int)) (.cons hc16 (.cons (⟨by omega, by omega⟩ : 0 ≤ (i11 : Int) ∧ (i11 : Int) < ((p0.length : Nat) : Int)) (.cons hc17 (.cons hc18 (.cons (fun _ => (⟨by omega, by omega⟩ : 0 ≤ (i9 : Int) ∧ (i9 : Int) < ((p0.length : Nat) : Int))) (.cons (fun h => h) (.cons (fun h => h) (.cons (fun h => h) (.cons hc19 (.cons (fun h => h) (.cons (fun h => h) (.cons (fun h => h) (.cons (fun h => h) (.cons (fun _ => (⟨by omega, by omega⟩ : 0 ≤ (i9 : Int) ∧ (i9 : Int) < ((p0.length : Nat) : Int))) (.cons (fun h => h) (.cons (fun h => h) (.cons (fun h => h) (.cons hc20 (.cons (fun h => h) (.cons (fun h => h) (.cons (fun h => h) (.cons (fun h => h) (.cons (fun _ => (⟨by omega, by omega⟩ : 0 ≤ (i11 : Int) ∧ (i11 : Int) < ((p0.length : Nat) : Int))) (.cons (fun h => h) (.cons (fun h => h) (.cons (fun h => h) (.cons hc21 (.cons (fun h => h) (.cons (fun h => h) (.cons (fun h => h) (.cons (fun h => h) (.cons hc22 (.cons (fun h => h) (.cons (fun h => h) (.cons (fun h => h) (.cons (fun h => h) (.cons (fun h => by rw [h]; rfl) .nil)))))))))))))))))))))))))))))))))))))))) .nil ?_
           refine W.cond rfl (fun hb23 => ?_) (fun hb23 => ?_)
           · have H := of_true H hb23
             refine W.rg env [2] [] ?_
             refine W.ret ?_
             refine At.rinb ?_
             refine At.rthen ?_
             refine At.rthen ?_
             refine At.rinb ?_
             refine At.rinb ?_
             refine At.rthen ?_
             refine At.rthen ?_
             refine At.rinb ?_
             refine At.rinb ?_
             refine At.rthen ?_
             refine At.rthen ?_
             refine At.rinb ?_
             refine At.rthen ?_
             cases H
             exact At.ret env.ty rfl rfl (fun q hq => by cases hq) (.refl _) hval
           · have H := of_false H hb23
             refine W.skip ?_
             refine At.inb ?_
             refine At.thenC ?_
             refine W.region env [] [] rfl rfl rfl (.cons (by unfold inI; have := hn13; (try unfold maxLen at this); omega) .nil) .nil (At.keep (ts := [0, 7, 8, 53, 54, 58, 59, 63, 64]) (ids := []) rfl rfl ?_)
             refine At.thenK (At.keep (ts := [0, 7, 8, 53, 54, 58, 59, 63, 64]) (ids := []) rfl rfl ?_)
             exact At.conv (.cons .q (.cons .qi (.cons .qi (.cons .qi (.cons .qi (.cons .qi (.cons .qi (.cons .qi (.cons .qi .nil))))))))) .nil (hK13 hi13 () H)
         · have H := H2 (by have := of_decide_eq_false hb14; omega)
           refine W.exit ?_
           refine At.xthen ?_
           refine At.xthen ?_
           refine At.xhere ?_
           refine At.inb ?_
           refine At.thenC ?_
           refine W.region env [] [] rfl rfl rfl (.cons (by unfold inI; have := hn11; (try unfold maxLen at this); omega) .nil) .nil (At.keep (ts := [0, 7, 53, 54, 58, 59]) (ids := []) rfl rfl ?_)
           refine At.thenK (At.keep (ts := [0, 7, 53, 54, 58, 59]) (ids := []) rfl rfl ?_)
           exact At.conv (.cons .q (.cons .qi (.cons .qi (.cons .qi (.cons .qi (.cons .qi .nil)))))) .nil (hK11 hi11 () H)
       · have H := H2 (by have := of_decide_eq_false hb12; omega)
         refine W.exit ?_
         refine At.xthen ?_
         refine At.xthen ?_
         refine At.xhere ?_
         refine At.inb ?_
         refine At.thenC ?_
         refine W.region env [] [] rfl rfl rfl (.cons (by unfold inI; have := hn9; (try unfold maxLen at this); omega) .nil) .nil (At.keep (ts := [0, 53, 54]) (ids := []) rfl rfl ?_)
         refine At.thenK (At.keep (ts := [0, 53, 54]) (ids := []) rfl rfl ?_)
         exact At.conv (.cons .q (.cons .qi (.cons .qi .nil))) .nil (hK9 hi9 () H)
     · have H := H2 (by have := of_decide_eq_false hb10; omega)
       refine W.exit ?_
       refine At.xthen ?_
       refine At.xthen ?_
       refine At.xhere ?_
       refine At.thenC ?_
       refine W.rg env [2] [] ?_
       refine W.ret ?_
       cases H
       exact At.ret env.ty rfl rfl (fun q hq => by cases hq) (.refl _) hval
theorem c_crew_isMinute (p0 : Int) : Ctr Tryz.prog 73 [.int .i64 (p0)] (.bool ((crew_isMinute p0))) := by
 obtain ⟨r, H⟩ : ∃ r, crew_isMinute p0 = r := ⟨_, rfl⟩
 rw [H]
 unfold crew_isMinute at H
 refine Ctr.of_body (N := 5) Tryz.func73 (by kernel_rfl) (c := _) rfl Tryz.ntmps73 rfl (fun w0 h0 hval => ?_)
 refine W.rg env [0] [] ?_
 refine W.sr env [] [⟨.bool ((crew_in p0 0 1439)), [], 0, []⟩] [2] [] rfl rfl rfl .nil (.free (c_crew_in p0 0 1439) .nil) ?_
 refine W.ret ?_
 cases H
 exact At.ret env.ty rfl rfl (fun q hq => by cases hq) (.refl _) hval
theorem c_crew_CheckTask (p0 : Task) : Ctr Tryz.prog 28 [.agg [.int .i64 (p0.Lamp), .int .i64 (p0.Place), .int .i64 (p0.At), .int .i64 (p0.Serve)]] (.int .i64 ((crew_CheckTask p0))) := by
 obtain ⟨r, H⟩ : ∃ r, crew_CheckTask p0 = r := ⟨_, rfl⟩
 rw [H]
 unfold crew_CheckTask at H
 refine Ctr.of_body (N := 25) Tryz.func28 (by kernel_rfl) (c := _) rfl Tryz.ntmps28 rfl (fun w0 h0 hval => ?_)
 refine W.rg env [1] [1] ?_
 refine W.seq ?_
 refine W.sr env [] [⟨.bool ((crew_in p0.Lamp 1 999)), [], 0, []⟩, ⟨.bool ((crew_in p0.Place 0 11)), [], 0, []⟩, ⟨.bool ((crew_isMinute p0.At)), [], 0, []⟩, ⟨.bool ((crew_in p0.Serve 1 120)), [], 0, []⟩] [24] [] rfl rfl rfl (.cons (fun h => h) (.cons (fun h => h) (.cons (fun h => h) (.cons (fun h => by rw [h]; rfl) (.cons (fun h => h) (.cons (fun h => h) (.cons (fun h => h) (.cons (fun h => by rw [h]; rfl) (.cons (fun h => h) (.cons (fun h => h) (.cons (fun h => h) (.cons (fun h => by rw [h]; rfl) .nil)))))))))))) (.free (c_crew_in p0.Lamp 1 999) (.on (fun hW => c_crew_in p0.Place 0 11) (.on (fun hW => c_crew_isMinute p0.At) (.on (fun hW => c_crew_in p0.Serve 1 120) .nil)))) ?_
 refine W.cond rfl (fun hb1 => ?_) (fun hb1 => ?_)
 · have H := of_true H hb1
   refine W.rg env [2] [] ?_
   refine W.ret ?_
   refine At.rthen ?_
   cases H
   exact At.ret env.ty rfl rfl (fun q hq => by cases hq) (.refl _) hval
 · have H := of_false H hb1
   refine W.skip ?_
   refine At.thenC ?_
   refine W.rg env [2] [] ?_
   refine W.ret ?_
   cases H
   exact At.ret env.ty rfl rfl (fun q hq => by cases hq) (.refl _) hval
theorem c_crew_CheckHand (p0 : Hand) : Ctr Tryz.prog 30 [.agg [.int .i64 (p0.Id), .int .i64 (p0.From), .int .i64 (p0.To)]] (.int .i64 ((crew_CheckHand p0))) := by
 obtain ⟨r, H⟩ : ∃ r, crew_CheckHand p0 = r := ⟨_, rfl⟩
 rw [H]
 unfold crew_CheckHand at H
 refine Ctr.of_body (N := 21) Tryz.func30 (by kernel_rfl) (c := _) rfl Tryz.ntmps30 rfl (fun w0 h0 hval => ?_)
 refine W.rg env [1] [1] ?_
 refine W.seq ?_
 refine W.sr env [] [⟨.bool ((crew_in p0.Id 1 99)), [], 0, []⟩, ⟨.bool ((crew_isMinute p0.From)), [], 0, []⟩, ⟨.bool ((crew_in p0.To p0.From 1439)), [], 0, []⟩] [20] [] rfl rfl rfl (.cons (fun h => h) (.cons (fun h => h) (.cons (fun h => h) (.cons (fun h => by rw [h]; rfl) (.cons (fun h => h) (.cons (fun h => h) (.cons (fun h => h) (.cons (fun h => h) (.cons (fun h => h) (.cons (fun h => by rw [h]; rfl) .nil)))))))))) (.free (c_crew_in p0.Id 1 99) (.on (fun hW => c_crew_isMinute p0.From) (.on (fun hW => c_crew_in p0.To p0.From 1439) .nil))) ?_
 refine W.cond rfl (fun hb1 => ?_) (fun hb1 => ?_)
 · have H := of_true H hb1
   refine W.rg env [2] [] ?_
   refine W.ret ?_
   refine At.rthen ?_
   cases H
   exact At.ret env.ty rfl rfl (fun q hq => by cases hq) (.refl _) hval
 · have H := of_false H hb1
   refine W.skip ?_
   refine At.thenC ?_
   refine W.rg env [2] [] ?_
   refine W.ret ?_
   cases H
   exact At.ret env.ty rfl rfl (fun q hq => by cases hq) (.refl _) hval
theorem c_crew_Check (p0 : Crew) {r : Int} (H : crew_Check p0 = some r) : Ctr Tryz.prog 32 [.agg [roL 4 enc_Task p0.Tasks, roL 1 enc_ListRange p0.Travel, roL 3 enc_Hand p0.Hands]] (.int .i64 (r)) := by
 unfold crew_Check at H
 refine Ctr.of_body (N := 87) Tryz.func32 (by kernel_rfl) (c := _) rfl Tryz.ntmps32 rfl (fun w0 h0 hval => ?_)
 refine W.rg env [1] [1] ?_
 refine W.seq ?_
 refine W.seq ?_
 obtain ⟨y1, hy2, H⟩ := of_bindO H
 refine W.region env [] [⟨.bool (y1), [], 0, []⟩] rfl rfl rfl (.cons (fun h => h) (.cons (fun h => h) (.cons (fun h => h) (.cons (fun h => by rw [h]; rfl) (.cons (fun h => h) (.cons (fun h => h) (.cons (fun h => h) (.cons (fun h => by rw [h]; rfl) .nil)))))))) (.on (fun hW => c_crew_isTravel p0.Travel (of_true hy2 hW)) .nil) (At.keep (ts := [1, 22]) (ids := [1]) rfl rfl ?_)
 refine At.thenC ?_
 refine W.cond rfl (fun hb3 => ?_) (fun hb3 => ?_)
 · have H := of_true H hb3
   refine W.rg env [2] [] ?_
   refine W.ret ?_
   refine At.rthen ?_
   cases H
   exact At.ret env.ty rfl rfl (fun q hq => by cases hq) (.refl _) hval
 · have H := of_false H hb3
   refine W.skip ?_
   refine At.thenC ?_
   refine W.seq ?_
   refine W.rg env [1, 24, 25, 26] [1] ?_
   refine W.block ?_
   refine At.keep (ts := [1, 24, 25, 26]) (ids := [1]) rfl rfl ?_
   refine W.len (t := 24) rfl (fun (hn4 : p0.Tasks.length ≤ maxLen) => ?_)
   refine W.rangeGo H (fun i4 (s4 : Unit) => [(1, .lp 1 0), (24, roL 4 enc_Task p0.Tasks), (25, .int .i64 (((p0.Tasks.length : Nat) : Int))), (26, .int .i64 ((i4 : Int)))]) (fun i4 (s4 : Unit) => [(1, .cells [roL 4 enc_Task p0.Tasks, roL 1 enc_ListRange p0.Travel, roL 3 enc_Hand p0.Hands])]) (.cons .q (.cons .q (.cons .qi (.cons .qi .nil)))) (.cons .q .nil) (fun k4 i4 s4 hle4 H1 H2 K0 hK4 => ?_)
   refine W.rg env [1, 24, 25, 26, 27] [1] ?_
   refine W.seq ?_
   refine W.cond rfl (fun hb5 => ?_) (fun hb5 => ?_)
   · have hi4 : i4 < p0.Tasks.length := by have := of_decide_eq_true hb5; omega
     have H := H1 hi4
     refine W.skip ?_
     refine At.thenC ?_
     refine W.seq ?_
     refine W.block ?_
     refine W.sr env [] [] [1, 3, 4, 24, 25, 26] [1, 4] rfl rfl rfl (.cons (⟨by omega, by omega⟩ : 0 ≤ (i4 : Int) ∧ (i4 : Int) < ((p0.Tasks.length : Nat) : Int)) .nil) .nil ?_
     obtain ⟨hc6, H⟩ := of_must H
     obtain ⟨hc7, H⟩ := of_must H
     refine W.sr env [] [⟨.int .i64 ((crew_CheckTask (p0.Tasks.getD i4 default))), [], 0, []⟩] [1, 24, 25, 26, 57] [1] rfl rfl (by kernel_rfl) (.cons (fun h => h) (.cons (fun h => h) (.cons (fun h => h) (.cons (fun h => h) (.cons (fun h => h) (.cons (fun h => by rw [h]; rfl) (.cons (fun h => h) (.cons (fun h => h) (.cons (fun h => h) (.cons hc6 (.cons (fun h => h) (.cons hc7 (.cons (fun h => h) (.cons (fun h => h) (.cons (fun h => h) (.cons (fun h => h) (.cons (fun h => h) (.cons (fun h => h) (.cons (fun h => h) (.cons (fun h => h) (.cons (fun hW h => by revert hW h; first | (simp +contextual; done) | grind) (.cons (fun h => by rw [h]; rfl) .nil)))))))))))))))))))))) (.free (c_crew_CheckTask (p0.Tasks.getD i4 default)) .nil) ?_
     refine W.cond rfl (fun hb8 => ?_) (fun hb8 => ?_)
     · have H := of_true H hb8
       refine W.rg env [2] [] ?_
       refine W.ret ?_
       refine At.rinb ?_
       refine At.rthen ?_
       refine At.rthen ?_
       refine At.rinb ?_
       refine At.rthen ?_
       cases H
       exact At.ret env.ty rfl rfl (fun q hq => by cases hq) (.refl _) hval
     · have H := of_false H hb8
       refine W.skip ?_
       refine At.inb ?_
       refine At.thenC ?_
       refine W.region env [] [] rfl rfl rfl (.cons (by unfold inI; have := hn4; (try unfold maxLen at this); omega) .nil) .nil (At.keep (ts := [1, 24, 25, 26]) (ids := [1]) rfl rfl ?_)
       refine At.thenK (At.keep (ts := [1, 24, 25, 26]) (ids := [1]) rfl rfl ?_)
       exact At.conv (.cons .q (.cons .q (.cons .qi (.cons .qi .nil)))) (.cons .q .nil) (hK4 hi4 () H)
   · have H := H2 (by have := of_decide_eq_false hb5; omega)
     refine W.exit ?_
     refine At.xthen ?_
     refine At.xthen ?_
     refine At.xhere ?_
     refine At.thenC ?_
     refine W.seq ?_
     refine W.rg env [1, 60, 61, 62] [1] ?_
     refine W.block ?_
     refine At.keep (ts := [1, 60, 61, 62]) (ids := [1]) rfl rfl ?_
     refine W.len (t := 60) rfl (fun (hn9 : p0.Hands.length ≤ maxLen) => ?_)
     refine W.rangeGo H (fun i9 (s9 : Unit) => [(1, .lp 1 0), (60, roL 3 enc_Hand p0.Hands), (61, .int .i64 (((p0.Hands.length : Nat) : Int))), (62, .int .i64 ((i9 : Int)))]) (fun i9 (s9 : Unit) => [(1, .cells [roL 4 enc_Task p0.Tasks, roL 1 enc_ListRange p0.Travel, roL 3 enc_Hand p0.Hands])]) (.cons .q (.cons .q (.cons .qi (.cons .qi .nil)))) (.cons .q .nil) (fun k9 i9 s9 hle9 H1 H2 K0 hK9 => ?_)
     refine W.rg env [1, 60, 61, 62, 63] [1] ?_
     refine W.seq ?_
     refine W.cond rfl (fun hb10 => ?_) (fun hb10 => ?_)
     · have hi9 : i9 < p0.Hands.length := by have := of_decide_eq_true hb10; omega
       have H := H1 hi9
       refine W.skip ?_
       refine At.thenC ?_
       refine W.seq ?_
       refine W.block ?_
       refine W.sr env [] [] [1, 5, 6, 60, 61, 62] [1, 6] rfl rfl rfl (.cons (⟨by omega, by omega⟩ : 0 ≤ (i9 : Int) ∧ (i9 : Int) < ((p0.Hands.length : Nat) : Int)) .nil) .nil ?_
       obtain ⟨hc11, H⟩ := of_must H
       obtain ⟨hc12, H⟩ := of_must H
       refine W.sr env [] [⟨.int .i64 ((crew_CheckHand (p0.Hands.getD i9 default))), [], 0, []⟩] [1, 60, 61, 62, 85] [1] rfl rfl (by kernel_rfl) (.cons (fun h => h) (.cons (fun h => h) (.cons (fun h => h) (.cons hc11 (.cons (fun h => h) (.cons hc12 (.cons (fun h => h) (.cons (fun h => h) (.cons (fun h => h) (.cons (fun h => h) (.cons (fun h => h) (.cons (fun h => h) (.cons (fun h => h) (.cons (fun h => h) (.cons (fun hW h => by revert hW h; first | (simp +contextual; done) | grind) (.cons (fun h => by rw [h]; rfl) .nil)))))))))))))))) (.free (c_crew_CheckHand (p0.Hands.getD i9 default)) .nil) ?_
       refine W.cond rfl (fun hb13 => ?_) (fun hb13 => ?_)
       · have H := of_true H hb13
         refine W.rg env [2] [] ?_
         refine W.ret ?_
         refine At.rinb ?_
         refine At.rthen ?_
         refine At.rthen ?_
         refine At.rinb ?_
         refine At.rthen ?_
         cases H
         exact At.ret env.ty rfl rfl (fun q hq => by cases hq) (.refl _) hval
       · have H := of_false H hb13
         refine W.skip ?_
         refine At.inb ?_
         refine At.thenC ?_
         refine W.region env [] [] rfl rfl rfl (.cons (by unfold inI; have := hn9; (try unfold maxLen at this); omega) .nil) .nil (At.keep (ts := [1, 60, 61, 62]) (ids := [1]) rfl rfl ?_)
         refine At.thenK (At.keep (ts := [1, 60, 61, 62]) (ids := [1]) rfl rfl ?_)
         exact At.conv (.cons .q (.cons .q (.cons .qi (.cons .qi .nil)))) (.cons .q .nil) (hK9 hi9 () H)
     · have H := H2 (by have := of_decide_eq_false hb10; omega)
       refine W.exit ?_
       refine At.xthen ?_
       refine At.xthen ?_
       refine At.xhere ?_
       refine At.thenC ?_
       refine W.rg env [2] [] ?_
       refine W.ret ?_
       cases H
       exact At.ret env.ty rfl rfl (fun q hq => by cases hq) (.refl _) hval
theorem c_crew_spare (p0 : Crew) (p1 : Int) (p2 : Int) (p3 : Range → Option Int) (p3_g : Nat) (p3_a p3_b : List AV) (p3_h : ∀ x0 r, p3 x0 = some r → Ctr Tryz.prog p3_g (p3_a ++ ([.agg [.int .i64 (x0.Lo), .int .i64 (x0.Hi)]] ++ p3_b)) (.int .i64 (r))) {r : Int} (H : crew_spare p0 p1 p2 p3 = some r) : Ctr Tryz.prog 81 [.agg [roL 4 enc_Task p0.Tasks, roL 1 enc_ListRange p0.Travel, roL 3 enc_Hand p0.Hands], .int .i64 (p1), .int .i64 (p2), .clo (.func p3_g) p3_a p3_b] (.int .i64 (r)) := by
 unfold crew_spare at H
 refine Ctr.of_body (N := 42) Tryz.func81 (by kernel_rfl) (c := _) rfl Tryz.ntmps81 rfl (fun w0 h0 hval => ?_)
 refine W.rg env [1, 2, 3, 4] [4] ?_
 obtain ⟨hc1, H⟩ := of_must H
 obtain ⟨hc2, H⟩ := of_must H
 refine W.sr env [] [] [3, 4, 9, 10] [4, 9, 10] rfl rfl (by first | rfl | kernel_rfl) (.cons hc1 (.cons hc2 .nil)) .nil ?_
 refine W.seq ?_
 obtain ⟨hc3, H⟩ := of_must H
 obtain ⟨hc4, H⟩ := of_must H
 obtain ⟨hc5, H⟩ := of_must H
 obtain ⟨hc6, H⟩ := of_must H
 obtain ⟨y7, hy8, H⟩ := of_bindO H
 obtain ⟨hc9, H⟩ := of_must H
 refine W.region env [] [⟨.int .i64 (y7), [], 0, []⟩] rfl rfl (by kernel_rfl) (.cons hc3 (.cons hc4 (.cons hc5 (.cons hc6 (.cons hc9 .nil))))) (.free (p3_h ((p0.Travel.getD ((p0.Tasks.getD (p1).toNat default).Place).toNat default).getD ((p0.Tasks.getD (p2).toNat default).Place).toNat default) _ hy8) .nil) (At.keep (ts := [8]) (ids := []) rfl rfl ?_)
 refine At.thenC ?_
 refine W.ret ?_
 cases H
 exact At.ret env.ty rfl rfl (fun q hq => by cases hq) (.refl _) hval
theorem c_crew_newPlan (p0 : Crew) (p1 : Range → Option Int) (p1_g : Nat) (p1_a p1_b : List AV) (p1_h : ∀ x0 r, p1 x0 = some r → Ctr Tryz.prog p1_g (p1_a ++ ([.agg [.int .i64 (x0.Lo), .int .i64 (x0.Hi)]] ++ p1_b)) (.int .i64 (r))) {r : (Option crew_plan)} (H : crew_newPlan p0 p1 = some r) : Ctr Tryz.prog 34 [.agg [roL 4 enc_Task p0.Tasks, roL 1 enc_ListRange p0.Travel, roL 3 enc_Hand p0.Hands], .clo (.func p1_g) p1_a p1_b] (.po r.isSome [roL 4 enc_Task ((r.getD default).Crew.Tasks), roL 1 enc_ListRange ((r.getD default).Crew.Travel), roL 3 enc_Hand ((r.getD default).Crew.Hands), roL 1 enc_Int ((r.getD default).next)]) := by
 unfold crew_newPlan at H
 refine Ctr.of_body (N := 52) Tryz.func34 (by kernel_rfl) (c := _) rfl Tryz.ntmps34 rfl (fun w0 h0 hval => ?_)
 refine W.rg env [1, 2] [2] ?_
 refine W.seq ?_
 obtain ⟨hc1, H⟩ := of_must H
 refine W.region env [] [] rfl rfl (by first | rfl | kernel_rfl) (.cons hc1 .nil) .nil (At.keep (ts := [1, 2, 5]) (ids := [2, 12, 14]) rfl rfl ?_)
 refine At.convM (.cons (.refl _) (.cons (y := bufL 3 1 enc_Int (List.replicate (((p0.Tasks.length : Nat) : Int)).toNat (0 : Int))) (BSim.seg (Seg.made (f := enc_Int) 0 rfl)) (.cons (.refl _) .nil))) ?_
 refine At.thenC ?_
 refine W.seq ?_
 refine W.rg env [1, 2, 5, 17, 18] [2, 12, 14] ?_
 refine W.block ?_
 refine At.keep (ts := [1, 2, 5, 17, 18]) (ids := [2, 12, 14]) rfl rfl ?_
 obtain ⟨hn2, H⟩ := of_must H
 refine W.rangeGo H (fun i2 (s2 : (List Int)) => [(1, .clo (.func p1_g) p1_a p1_b), (2, .lp 2 0), (5, .lp 14 0), (17, .int .i64 (((p0.Tasks.length : Nat) : Int))), (18, .int .i64 ((i2 : Int)))]) (fun i2 (s2 : (List Int)) => [(2, .cells [roL 4 enc_Task p0.Tasks, roL 1 enc_ListRange p0.Travel, roL 3 enc_Hand p0.Hands]), (12, bufL 3 1 enc_Int s2), (14, .cells [roL 4 enc_Task p0.Tasks, roL 1 enc_ListRange p0.Travel, roL 3 enc_Hand p0.Hands, .buf 12 (s2).length])]) (.cons .q (.cons .q (.cons .q (.cons .qi (.cons .qi .nil))))) (.cons .q (.cons .q (.cons (BSim.cells (.cons .q (.cons .q (.cons .q (.cons .qc .nil))))) .nil))) (fun k2 i2 s2 hle2 H1 H2 K0 hK2 => ?_)
 refine W.rg env [1, 2, 5, 17, 18, 19] [2, 12, 14] ?_
 refine W.seq ?_
 refine W.cond rfl (fun hb3 => ?_) (fun hb3 => ?_)
 · have hi2 : i2 < p0.Tasks.length := by have := of_decide_eq_true hb3; omega
   have H := H1 hi2
   refine W.skip ?_
   refine At.thenC ?_
   refine W.seq ?_
   refine W.block ?_
   refine W.rg env [1, 2, 5, 6, 17, 18] [2, 12, 14] ?_
   refine W.rg env [1, 2, 5, 6, 17, 18, 23, 24] [2, 12, 14] ?_
   refine W.block ?_
   refine At.keep (ts := [1, 2, 5, 6, 17, 18, 23, 24]) (ids := [2, 12, 14]) rfl rfl ?_
   obtain ⟨hn4, H⟩ := of_must H
   refine W.rangeGo H (fun i4 (s4 : (List Int)) => [(1, .clo (.func p1_g) p1_a p1_b), (2, .lp 2 0), (5, .lp 14 0), (6, .int .i64 ((i2 : Int))), (17, .int .i64 (((p0.Tasks.length : Nat) : Int))), (18, .int .i64 ((i2 : Int))), (23, .int .i64 (((p0.Tasks.length : Nat) : Int))), (24, .int .i64 ((i4 : Int)))]) (fun i4 (s4 : (List Int)) => [(2, .cells [roL 4 enc_Task p0.Tasks, roL 1 enc_ListRange p0.Travel, roL 3 enc_Hand p0.Hands]), (12, bufL 3 1 enc_Int s4), (14, .cells [roL 4 enc_Task p0.Tasks, roL 1 enc_ListRange p0.Travel, roL 3 enc_Hand p0.Hands, .buf 12 (s4).length])]) (.cons .q (.cons .q (.cons .q (.cons .qi (.cons .qi (.cons .qi (.cons .qi (.cons .qi .nil)))))))) (.cons .q (.cons .q (.cons (BSim.cells (.cons .q (.cons .q (.cons .q (.cons .qc .nil))))) .nil))) (fun k4 i4 s4 hle4 H1 H2 K0 hK4 => ?_)
   refine W.rg env [1, 2, 5, 6, 17, 18, 23, 24, 25] [2, 12, 14] ?_
   refine W.seq ?_
   refine W.cond rfl (fun hb5 => ?_) (fun hb5 => ?_)
   · have hi4 : i4 < p0.Tasks.length := by have := of_decide_eq_true hb5; omega
     have H := H1 hi4
     refine W.skip ?_
     refine At.thenC ?_
     refine W.seq ?_
     refine W.block ?_
     refine W.rg env [1, 2, 5, 6, 7, 17, 18, 23, 24] [2, 12, 14] ?_
     refine W.seq ?_
     obtain ⟨y6, hy7, H⟩ := of_bindO H
     refine W.region env [] [⟨.int .i64 (y6), [], 0, []⟩] rfl rfl rfl (.cons (fun h => h) (.cons (fun h => h) (.cons (fun h => h) (.cons (fun h => h) (.cons (fun h => h) (.cons (fun h => h) .nil)))))) (.on (fun hW => c_crew_spare p0 (i2 : Int) (i4 : Int) p1 p1_g p1_a p1_b p1_h (of_true hy7 hW)) .nil) (At.keep (ts := [1, 2, 5, 6, 7, 17, 18, 23, 24, 37]) (ids := [2, 12, 14]) rfl rfl ?_)
     refine At.thenC ?_
     refine W.cond rfl (fun hb8 => ?_) (fun hb8 => ?_)
     · have H := of_true H hb8
       obtain ⟨hc9, H⟩ := of_must H
       obtain ⟨hc10, H⟩ := of_must H
       obtain ⟨hc11, H⟩ := of_must H
       obtain ⟨hc12, H⟩ := of_must H
       refine W.region env [] [] rfl rfl (by first | rfl | kernel_rfl) (.cons (⟨by first | rfl | (simp; done) | omega | (simp; omega), hc9⟩) (.cons (⟨by first | rfl | (simp; done) | omega | (simp; omega), (by have := hc9; first | omega | (simp only [List.length_set]; omega) | (simp only [Int.toNat_natCast] at *; omega) | (simp at this ⊢; omega))⟩) (.cons hc10 (.cons hc11 (.cons (⟨by first | rfl | (simp; done) | omega | (simp; omega), hc12⟩) (.cons (⟨by first | rfl | (simp; done) | omega | (simp; omega), (by have := hc12; first | omega | (simp only [List.length_set]; omega) | (simp only [Int.toNat_natCast] at *; omega) | (simp at this ⊢; omega))⟩) .nil)))))) .nil (At.keep (ts := [1, 2, 5, 6, 17, 18, 23, 24]) (ids := [2, 12, 14]) rfl rfl ?_)
       refine At.convM (.cons (.refl _) (.cons (y := bufL 3 1 enc_Int (s4.set i2 ((((s4.getD i2 default) : Int).toNat ||| (((1 : Int) * 2 ^ ((i4 : Int) : Int).toNat) : Int).toNat : Nat) : Int))) (BSim.seg (Seg.set (Seg.refl enc_Int _) ((((s4.getD i2 default) : Int).toNat ||| (((1 : Int) * 2 ^ ((i4 : Int) : Int).toNat) : Int).toNat : Nat) : Int) rfl)) (.cons (.refl _) .nil))) ?_
       refine At.inb ?_
       refine At.thenC ?_
       refine W.region env [] [] rfl rfl rfl (.cons (by unfold inI; have := hn4; (try unfold maxLen at this); omega) .nil) .nil (At.keep (ts := [1, 2, 5, 6, 17, 18, 23, 24]) (ids := [2, 12, 14]) rfl rfl ?_)
       refine At.thenK (At.keep (ts := [1, 2, 5, 6, 17, 18, 23, 24]) (ids := [2, 12, 14]) rfl rfl ?_)
       exact At.conv (.cons .q (.cons .q (.cons .q (.cons .qi (.cons .qi (.cons .qi (.cons .qi (.cons .qi .nil)))))))) (.cons .q (.cons .q (.cons (BSim.cells (.cons .q (.cons .q (.cons .q (.cons .qc .nil))))) .nil))) (hK4 hi4 (s4.set i2 ((((s4.getD i2 default) : Int).toNat ||| (((1 : Int) * 2 ^ ((i4 : Int) : Int).toNat) : Int).toNat : Nat) : Int)) H)
     · have H := of_false H hb8
       refine W.skip ?_
       refine At.inb ?_
       refine At.thenC ?_
       refine W.region env [] [] rfl rfl rfl (.cons (by unfold inI; have := hn4; (try unfold maxLen at this); omega) .nil) .nil (At.keep (ts := [1, 2, 5, 6, 17, 18, 23, 24]) (ids := [2, 12, 14]) rfl rfl ?_)
       refine At.thenK (At.keep (ts := [1, 2, 5, 6, 17, 18, 23, 24]) (ids := [2, 12, 14]) rfl rfl ?_)
       exact At.conv (.cons .q (.cons .q (.cons .q (.cons .qi (.cons .qi (.cons .qi (.cons .qi (.cons .qi .nil)))))))) (.cons .q (.cons .q (.cons (BSim.cells (.cons .q (.cons .q (.cons .q (.cons .qc .nil))))) .nil))) (hK4 hi4 s4 H)
   · have H := H2 (by have := of_decide_eq_false hb5; omega)
     refine W.exit ?_
     refine At.xthen ?_
     refine At.xthen ?_
     refine At.xhere ?_
     refine At.inb ?_
     refine At.thenC ?_
     refine W.region env [] [] rfl rfl rfl (.cons (by unfold inI; have := hn2; (try unfold maxLen at this); omega) .nil) .nil (At.keep (ts := [1, 2, 5, 17, 18]) (ids := [2, 12, 14]) rfl rfl ?_)
     refine At.thenK (At.keep (ts := [1, 2, 5, 17, 18]) (ids := [2, 12, 14]) rfl rfl ?_)
     exact At.conv (.cons .q (.cons .q (.cons .q (.cons .qi (.cons .qi .nil))))) (.cons .q (.cons .q (.cons (BSim.cells (.cons .q (.cons .q (.cons .q (.cons .qc .nil))))) .nil))) (hK2 hi2 s4 H)
 · have H := H2 (by have := of_decide_eq_false hb3; omega)
   refine W.exit ?_
   refine At.xthen ?_
   refine At.xthen ?_
   refine At.xhere ?_
   refine At.thenC ?_
   refine W.rg env [4] [12, 14] ?_
   refine W.ret ?_
   cases H
   exact At.ret env.ty rfl rfl (fun q hq => by cases hq; exact (by first | rfl | (simp; done) | omega | (simp; omega))) (Sim.po_rp rfl (.cons (.refl _) (.cons (.refl _) (.cons (.refl _) (.cons (.refl _) .nil))))) hval
theorem c_crew_most (p0 : Range) : Ctr Tryz.prog 35 [.agg [.int .i64 (p0.Lo), .int .i64 (p0.Hi)]] (.int .i64 ((crew_most p0))) := by
 obtain ⟨r, H⟩ : ∃ r, crew_most p0 = r := ⟨_, rfl⟩
 rw [H]
 unfold crew_most at H
 refine Ctr.of_body (N := 5) Tryz.func35 (by kernel_rfl) (c := _) rfl Tryz.ntmps35 rfl (fun w0 h0 hval => ?_)
 refine W.rg env [1] [1] ?_
 refine W.rg env [2] [] ?_
 refine W.ret ?_
 cases H
 exact At.ret env.ty rfl rfl (fun q hq => by cases hq) (.refl _) hval
theorem c_crew_plan__isRound (p0 : crew_plan) (p1 : (List Int)) {r : Bool} (H : crew_plan__isRound p0 p1 = some r) : Ctr Tryz.prog 36 [.rp [roL 4 enc_Task p0.Crew.Tasks, roL 1 enc_ListRange p0.Crew.Travel, roL 3 enc_Hand p0.Crew.Hands, roL 1 enc_Int p0.next], roL 1 enc_Int p1] (.bool (r)) := by
 unfold crew_plan__isRound at H
 refine Ctr.of_body (N := 48) Tryz.func36 (by kernel_rfl) (c := _) rfl Tryz.ntmps36 rfl (fun w0 h0 hval => ?_)
 refine W.rg env [0, 1] [] ?_
 refine W.seq ?_
 refine W.rg env [0, 1, 7, 8, 9] [] ?_
 refine W.block ?_
 refine At.keep (ts := [0, 1, 7, 8, 9]) (ids := []) rfl rfl ?_
 refine W.len (t := 7) rfl (fun (hn1 : p1.length ≤ maxLen) => ?_)
 refine W.rangeGo H (fun i1 (s1 : Unit) => [(0, .rp [roL 4 enc_Task p0.Crew.Tasks, roL 1 enc_ListRange p0.Crew.Travel, roL 3 enc_Hand p0.Crew.Hands, roL 1 enc_Int p0.next]), (1, roL 1 enc_Int p1), (7, roL 1 enc_Int p1), (8, .int .i64 (((p1.length : Nat) : Int))), (9, .int .i64 ((i1 : Int)))]) (fun i1 (s1 : Unit) => []) (.cons .q (.cons .q (.cons .q (.cons .qi (.cons .qi .nil))))) .nil (fun k1 i1 s1 hle1 H1 H2 K0 hK1 => ?_)
 refine W.rg env [0, 1, 7, 8, 9, 10] [] ?_
 refine W.seq ?_
 refine W.cond rfl (fun hb2 => ?_) (fun hb2 => ?_)
 · have hi1 : i1 < p1.length := by have := of_decide_eq_true hb2; omega
   have H := H1 hi1
   refine W.skip ?_
   refine At.thenC ?_
   refine W.seq ?_
   refine W.block ?_
   refine W.sr env [] [] [0, 1, 5, 6, 7, 8, 9] [] rfl rfl rfl (.cons (⟨by omega, by omega⟩ : 0 ≤ (i1 : Int) ∧ (i1 : Int) < ((p1.length : Nat) : Int)) .nil) .nil ?_
   obtain ⟨hc3, H⟩ := of_must H
   obtain ⟨hc4, H⟩ := of_must H
   obtain ⟨hc5, H⟩ := of_must H
   obtain ⟨hc6, H⟩ := of_must H
   obtain ⟨hc7, H⟩ := of_must H
   obtain ⟨hc8, H⟩ := of_must H
   refine W.sr env [] [⟨.bool ((crew_in (p1.getD i1 default) 0 (((p0.next.length : Nat) : Int) - 1))), [], 0, []⟩] [0, 1, 7, 8, 9, 43] [] rfl rfl (by kernel_rfl) (.cons hc3 (.cons (fun h => h) (.cons (fun h => h) (.cons (fun h => h) (.cons (fun h => h) (.cons (fun h => h) (.cons hc4 (.cons (fun h => h) (.cons hc5 (.cons (fun h => h) (.cons (fun h => h) (.cons (fun h => h) (.cons hc6 (.cons (fun h => h) (.cons (fun h => h) (.cons (fun h => h) (.cons hc7 (.cons (fun h => h) (.cons (fun h => h) (.cons hc8 (.cons (fun h => h) (.cons (fun h => h) (.cons (fun h => h) (.cons (fun hW h => by revert hW h; first | (simp +contextual; done) | grind) (.cons (fun h => by rw [h]; rfl) .nil))))))))))))))))))))))))) (.free (c_crew_in (p1.getD i1 default) 0 (((p0.next.length : Nat) : Int) - 1)) .nil) ?_
   refine W.cond rfl (fun hb9 => ?_) (fun hb9 => ?_)
   · have H := of_true H hb9
     refine W.rg env [4] [] ?_
     refine W.ret ?_
     refine At.rinb ?_
     refine At.rthen ?_
     refine At.rthen ?_
     refine At.rinb ?_
     refine At.rthen ?_
     cases H
     exact At.ret env.ty rfl rfl (fun q hq => by cases hq) (.refl _) hval
   · have H := of_false H hb9
     refine W.skip ?_
     refine At.inb ?_
     refine At.thenC ?_
     refine W.region env [] [] rfl rfl rfl (.cons (by unfold inI; have := hn1; (try unfold maxLen at this); omega) .nil) .nil (At.keep (ts := [0, 1, 7, 8, 9]) (ids := []) rfl rfl ?_)
     refine At.thenK (At.keep (ts := [0, 1, 7, 8, 9]) (ids := []) rfl rfl ?_)
     exact At.conv (.cons .q (.cons .q (.cons .q (.cons .qi (.cons .qi .nil))))) .nil (hK1 hi1 () H)
 · have H := H2 (by have := of_decide_eq_false hb2; omega)
   refine W.exit ?_
   refine At.xthen ?_
   refine At.xthen ?_
   refine At.xhere ?_
   refine At.thenC ?_
   refine W.rg env [4] [] ?_
   refine W.ret ?_
   cases H
   exact At.ret env.ty rfl rfl (fun q hq => by cases hq) (.refl _) hval
theorem c_crew_plan__able (p0 : crew_plan) (p1 : Hand) (p2 : (List Int)) {r : Bool} (H : crew_plan__able p0 p1 p2 = some r) : Ctr Tryz.prog 37 [.rp [roL 4 enc_Task p0.Crew.Tasks, roL 1 enc_ListRange p0.Crew.Travel, roL 3 enc_Hand p0.Crew.Hands, roL 1 enc_Int p0.next], .agg [.int .i64 (p1.Id), .int .i64 (p1.From), .int .i64 (p1.To)], roL 1 enc_Int p2] (.bool (r)) := by
 unfold crew_plan__able at H
 refine Ctr.of_body (N := 47) Tryz.func37 (by kernel_rfl) (c := _) rfl Tryz.ntmps37 rfl (fun w0 h0 hval => ?_)
 refine W.rg env [0, 2, 4] [4] ?_
 obtain ⟨hc1, H⟩ := of_must H
 obtain ⟨hc2, H⟩ := of_must H
 obtain ⟨hc3, H⟩ := of_must H
 obtain ⟨hc4, H⟩ := of_must H
 obtain ⟨hc5, H⟩ := of_must H
 refine W.sr env [] [] [4, 7, 8] [4, 7, 8] rfl rfl (by first | rfl | kernel_rfl) (.cons hc1 (.cons hc2 (.cons hc3 (.cons hc4 (.cons hc5 .nil))))) .nil ?_
 obtain ⟨hc6, H⟩ := of_must H
 refine W.sr env [] [] [6] [] rfl rfl rfl (.cons (fun h => h) (.cons (fun h => h) (.cons (fun h => h) (.cons hc6 (.cons (fun h => h) (.cons (fun h => h) (.cons (fun h => h) (.cons (fun h => h) (.cons (fun h => h) .nil))))))))) .nil ?_
 refine W.ret ?_
 cases H
 exact At.ret env.ty rfl rfl (fun q hq => by cases hq) (.refl _) hval
theorem c_crew_Able (p0 : Crew) (p1 : (List Int)) {r : ((List Int) × Int)} (H : crew_Able p0 p1 = some r) : Ctr Tryz.prog 5 [.agg [roL 4 enc_Task p0.Tasks, roL 1 enc_ListRange p0.Travel, roL 3 enc_Hand p0.Hands], roL 1 enc_Int p1] (.tup [roL 1 enc_Int r.1, .int .i64 (r.2)]) := by
 unfold crew_Able at H
 refine Ctr.of_body (N := 46) Tryz.func5 (by kernel_rfl) (c := _) rfl Tryz.ntmps5 rfl (fun w0 h0 hval => ?_)
 refine W.rg env [1, 2] [2] ?_
 refine W.seq ?_
 refine W.seq ?_
 obtain ⟨y1, hy2, H⟩ := of_bindO H
 refine W.region env [] [⟨.int .i64 (y1), [], 0, []⟩] rfl rfl rfl .nil (.free (c_crew_Check p0 hy2) .nil) (At.keep (ts := [1, 2, 6]) (ids := [2]) rfl rfl ?_)
 refine At.thenC ?_
 refine W.rg env [1, 2, 6, 15] [2] ?_
 refine W.cond rfl (fun hb3 => ?_) (fun hb3 => ?_)
 · have H := of_true H hb3
   refine W.rg env [4, 5] [] ?_
   refine W.ret ?_
   refine At.rthen ?_
   cases H
   exact At.ret env.ty rfl rfl (fun q hq => by cases hq) (Sim.tupL (.cons (Sim.nil _ _) (.cons (.refl _) .nil))) hval
 · have H := of_false H hb3
   refine W.skip ?_
   refine At.thenC ?_
   refine W.seq ?_
   obtain ⟨y4, hy5, H⟩ := of_bindO H
   refine W.region env [] [⟨.po y4.isSome [roL 4 enc_Task ((y4.getD default).Crew.Tasks), roL 1 enc_ListRange ((y4.getD default).Crew.Travel), roL 3 enc_Hand ((y4.getD default).Crew.Hands), roL 1 enc_Int ((y4.getD default).next)], [], 0, []⟩] rfl rfl rfl .nil (.free (c_crew_newPlan p0 (fun x0 => some (crew_most x0)) 35 [] [] (fun x0 r h => by cases h; exact c_crew_most x0) hy5) .nil) (At.keep (ts := [1, 7]) (ids := []) rfl rfl ?_)
   refine At.thenC ?_
   refine W.seq ?_
   refine W.seq ?_
   obtain ⟨hc6, H⟩ := of_must H
   obtain ⟨y7, hy8, H⟩ := of_bindO H
   refine W.region env [] [⟨.bool (y7), [], 0, []⟩] rfl rfl rfl .nil (.free (Ctr.sim (.cons (Sim.rp_po hc6) (.cons (.refl _) .nil)) (c_crew_plan__isRound (y4.getD default) p1 hy8)) .nil) (At.keep (ts := [1, 7, 22]) (ids := []) rfl rfl ?_)
   refine At.thenC ?_
   refine W.cond rfl (fun hb9 => ?_) (fun hb9 => ?_)
   · have H := of_true H hb9
     refine W.rg env [4, 5] [] ?_
     refine W.ret ?_
     refine At.rthen ?_
     cases H
     exact At.ret env.ty rfl rfl (fun q hq => by cases hq) (Sim.tupL (.cons (Sim.nil _ _) (.cons (.refl _) .nil))) hval
   · have H := of_false H hb9
     refine W.skip ?_
     refine At.thenC ?_
     refine W.rg env [1, 7, 8] [] ?_
     refine W.rg env [1, 7, 8, 9] [] ?_
     refine W.seq ?_
     obtain ⟨hc10, H⟩ := of_must H
     refine W.sr env [] [] [1, 8, 9, 29, 30, 31] [] rfl rfl rfl (.cons hc10 .nil) .nil ?_
     refine W.block ?_
     refine At.nilOwn 9 509 3 1 (e := fun i => enc_Int (([] : List Int).getD i default)) rfl rfl ?_
     refine At.keep (ts := [1, 8, 9, 29, 30, 31]) (ids := [509]) rfl rfl ?_
     refine W.len (t := 29) rfl (fun (hn11 : ((y4.getD default).Crew.Hands).length ≤ maxLen) => ?_)
     refine W.rangeGo H (fun i11 (s11 : (List Int)) => [(1, roL 1 enc_Int p1), (8, .fn (.func 37) [.po y4.isSome [roL 4 enc_Task ((y4.getD default).Crew.Tasks), roL 1 enc_ListRange ((y4.getD default).Crew.Travel), roL 3 enc_Hand ((y4.getD default).Crew.Hands), roL 1 enc_Int ((y4.getD default).next)]] []), (9, .buf 509 (s11).length), (29, roL 3 enc_Hand ((y4.getD default).Crew.Hands)), (30, .int .i64 (((((y4.getD default).Crew.Hands).length : Nat) : Int))), (31, .int .i64 ((i11 : Int)))]) (fun i11 (s11 : (List Int)) => [(509, bufL 3 1 enc_Int s11)]) (.cons .q (.cons .q (.cons .qb (.cons .q (.cons .qi (.cons .qi .nil)))))) (.cons .q .nil) (fun k11 i11 s11 hle11 H1 H2 K0 hK11 => ?_)
     refine W.rg env [1, 8, 9, 29, 30, 31, 32] [509] ?_
     refine W.seq ?_
     refine W.cond rfl (fun hb12 => ?_) (fun hb12 => ?_)
     · have hi11 : i11 < ((y4.getD default).Crew.Hands).length := by have := of_decide_eq_true hb12; omega
       have H := H1 hi11
       refine W.skip ?_
       refine At.thenC ?_
       refine W.seq ?_
       refine W.block ?_
       refine W.sr env [] [] [1, 8, 9, 11, 29, 30, 31] [11, 509] rfl rfl rfl (.cons (⟨by omega, by omega⟩ : 0 ≤ (i11 : Int) ∧ (i11 : Int) < ((((y4.getD default).Crew.Hands).length : Nat) : Int)) .nil) .nil ?_
       refine W.seq ?_
       obtain ⟨hc13, H⟩ := of_must H
       obtain ⟨y14, hy15, H⟩ := of_bindO H
       refine W.region env [] [⟨.bool (y14), [], 0, []⟩] rfl rfl rfl .nil (.free (Ctr.sim (.cons (Sim.rp_po hc13) (.cons (.refl _) (.cons (.refl _) .nil))) (c_crew_plan__able (y4.getD default) (((y4.getD default).Crew.Hands).getD i11 default) p1 hy15)) .nil) (At.keep (ts := [1, 8, 9, 11, 29, 30, 31, 38]) (ids := [11, 509]) rfl rfl ?_)
       refine At.thenC ?_
       refine W.cond rfl (fun hb16 => ?_) (fun hb16 => ?_)
       · have H := of_true H hb16
         obtain ⟨hc17, H⟩ := of_must H
         refine W.region env [] [] rfl rfl rfl (.cons (⟨by first | rfl | (simp; done) | omega | (simp; omega), by have := hc17; first | simpa using this | (unfold room at this ⊢; simp at this ⊢; omega)⟩) .nil) .nil (At.keep (ts := [1, 8, 9, 29, 30, 31]) (ids := [509]) rfl rfl ?_)
         refine At.convM (.cons (y := bufL 3 1 enc_Int (s11 ++ ([(((y4.getD default).Crew.Hands).getD i11 default).Id] : List Int))) (BSim.seg (Seg.push (Seg.refl enc_Int _) (Seg.lit (f := enc_Int) (sz := 1) ([(((y4.getD default).Crew.Hands).getD i11 default).Id] : List Int) rfl rfl (fun _ => rfl)))) .nil) ?_
         refine At.inb ?_
         refine At.thenC ?_
         refine W.region env [] [] rfl rfl rfl (.cons (by unfold inI; have := hn11; (try unfold maxLen at this); omega) .nil) .nil (At.keep (ts := [1, 8, 9, 29, 30, 31]) (ids := [509]) rfl rfl ?_)
         refine At.thenK (At.keep (ts := [1, 8, 9, 29, 30, 31]) (ids := [509]) rfl rfl ?_)
         exact At.conv (.cons .q (.cons .q (.cons .qb (.cons .q (.cons .qi (.cons .qi .nil)))))) (.cons .q .nil) (hK11 hi11 (s11 ++ ([(((y4.getD default).Crew.Hands).getD i11 default).Id] : List Int)) H)
       · have H := of_false H hb16
         refine W.skip ?_
         refine At.inb ?_
         refine At.thenC ?_
         refine W.region env [] [] rfl rfl rfl (.cons (by unfold inI; have := hn11; (try unfold maxLen at this); omega) .nil) .nil (At.keep (ts := [1, 8, 9, 29, 30, 31]) (ids := [509]) rfl rfl ?_)
         refine At.thenK (At.keep (ts := [1, 8, 9, 29, 30, 31]) (ids := [509]) rfl rfl ?_)
         exact At.conv (.cons .q (.cons .q (.cons .qb (.cons .q (.cons .qi (.cons .qi .nil)))))) (.cons .q .nil) (hK11 hi11 s11 H)
     · have H := H2 (by have := of_decide_eq_false hb12; omega)
       refine W.exit ?_
       refine At.xthen ?_
       refine At.xthen ?_
       refine At.xhere ?_
       refine At.thenC ?_
       refine W.rg env [4, 5] [509] ?_
       refine W.ret ?_
       cases H
       exact At.ret env.ty rfl rfl (fun q hq => by cases hq; exact (by first | rfl | (simp; done) | omega | (simp; omega))) (.refl _) hval
theorem c_gasolierref01_IsRange (p0 : Range) (p1 : Int) (p2 : Int) : Ctr Tryz.prog 78 [.agg [.int .i64 (p0.Lo), .int .i64 (p0.Hi)], .int .i64 (p1), .int .i64 (p2)] (.bool ((gasolierref01_IsRange p0 p1 p2))) := by
 obtain ⟨r, H⟩ : ∃ r, gasolierref01_IsRange p0 p1 p2 = r := ⟨_, rfl⟩
 rw [H]
 unfold gasolierref01_IsRange at H
 refine Ctr.of_body (N := 24) Tryz.func78 (by kernel_rfl) (c := _) rfl Tryz.ntmps78 rfl (fun w0 h0 hval => ?_)
 refine W.rg env [1, 2, 3] [3] ?_
 refine W.sr env [] [] [6] [] rfl rfl rfl (.cons (fun h => h) (.cons (fun h => h) (.cons (fun h => h) (.cons (fun h => h) (.cons (fun h => h) (.cons (fun h => h) (.cons (fun h => h) (.cons (fun h => h) (.cons (fun h => h) .nil))))))))) .nil ?_
 refine W.ret ?_
 cases H
 exact At.ret env.ty rfl rfl (fun q hq => by cases hq) (.refl _) hval
theorem c_gasolierref04_isTravel (p0 : (List (List Range))) {r : Bool} (H : gasolierref04_isTravel p0 = some r) : Ctr Tryz.prog 80 [roL 1 enc_ListRange p0] (.bool (r)) := by
 unfold gasolierref04_isTravel at H
 refine Ctr.of_body (N := 116) Tryz.func80 (by kernel_rfl) (c := _) rfl Tryz.ntmps80 rfl (fun w0 h0 hval => ?_)
 refine W.rg env [0] [] ?_
 refine W.seq ?_
 refine W.rg env [0, 12] [] ?_
 refine W.cond rfl (fun hb1 => ?_) (fun hb1 => ?_)
 · have H := of_true H hb1
   refine W.rg env [2] [] ?_
   refine W.ret ?_
   refine At.rthen ?_
   cases H
   exact At.ret env.ty rfl rfl (fun q hq => by cases hq) (.refl _) hval
 · have H := of_false H hb1
   refine W.skip ?_
   refine At.thenC ?_
   refine W.seq ?_
   refine W.rg env [0, 13, 14, 15] [] ?_
   refine W.block ?_
   refine At.keep (ts := [0, 13, 14, 15]) (ids := []) rfl rfl ?_
   refine W.len (t := 13) rfl (fun (hn2 : p0.length ≤ maxLen) => ?_)
   refine W.rangeGo H (fun i2 (s2 : Unit) => [(0, roL 1 enc_ListRange p0), (13, roL 1 enc_ListRange p0), (14, .int .i64 (((p0.length : Nat) : Int))), (15, .int .i64 ((i2 : Int)))]) (fun i2 (s2 : Unit) => []) (.cons .q (.cons .q (.cons .qi (.cons .qi .nil)))) .nil (fun k2 i2 s2 hle2 H1 H2 K0 hK2 => ?_)
   refine W.rg env [0, 13, 14, 15, 16] [] ?_
   refine W.seq ?_
   refine W.cond rfl (fun hb3 => ?_) (fun hb3 => ?_)
   · have hi2 : i2 < p0.length := by have := of_decide_eq_true hb3; omega
     have H := H1 hi2
     refine W.skip ?_
     refine At.thenC ?_
     refine W.seq ?_
     refine W.block ?_
     refine W.sr env [] [] [0, 3, 4, 13, 14, 15] [] rfl rfl rfl (.cons (⟨by omega, by omega⟩ : 0 ≤ (i2 : Int) ∧ (i2 : Int) < ((p0.length : Nat) : Int)) .nil) .nil ?_
     refine W.seq ?_
     obtain ⟨hc4, H⟩ := of_must H
     refine W.sr env [] [] [0, 4, 13, 14, 15, 32] [] rfl rfl rfl (.cons hc4 (.cons (fun h => h) (.cons (fun h => h) (.cons (fun h => h) (.cons (fun h => h) (.cons (fun h => h) (.cons (fun h => by rw [h]; rfl) .nil))))))) .nil ?_
     refine W.cond rfl (fun hb5 => ?_) (fun hb5 => ?_)
     · have H := of_true H hb5
       refine W.rg env [2] [] ?_
       refine W.ret ?_
       refine At.rthen ?_
       refine At.rinb ?_
       refine At.rthen ?_
       refine At.rthen ?_
       refine At.rinb ?_
       refine At.rthen ?_
       cases H
       exact At.ret env.ty rfl rfl (fun q hq => by cases hq) (.refl _) hval
     · have H := of_false H hb5
       refine W.skip ?_
       refine At.thenC ?_
       refine W.rg env [0, 13, 14, 15, 33, 34, 35] [] ?_
       refine W.block ?_
       refine At.keep (ts := [0, 13, 14, 15, 33, 34, 35]) (ids := []) rfl rfl ?_
       refine W.len (t := 33) rfl (fun (hn6 : (p0.getD i2 default).length ≤ maxLen) => ?_)
       refine W.rangeGo H (fun i6 (s6 : Unit) => [(0, roL 1 enc_ListRange p0), (13, roL 1 enc_ListRange p0), (14, .int .i64 (((p0.length : Nat) : Int))), (15, .int .i64 ((i2 : Int))), (33, roL 2 enc_Range (p0.getD i2 default)), (34, .int .i64 ((((p0.getD i2 default).length : Nat) : Int))), (35, .int .i64 ((i6 : Int)))]) (fun i6 (s6 : Unit) => []) (.cons .q (.cons .q (.cons .qi (.cons .qi (.cons .q (.cons .qi (.cons .qi .nil))))))) .nil (fun k6 i6 s6 hle6 H1 H2 K0 hK6 => ?_)
       refine W.rg env [0, 13, 14, 15, 33, 34, 35, 36] [] ?_
       refine W.seq ?_
       refine W.cond rfl (fun hb7 => ?_) (fun hb7 => ?_)
       · have hi6 : i6 < (p0.getD i2 default).length := by have := of_decide_eq_true hb7; omega
         have H := H1 hi6
         refine W.skip ?_
         refine At.thenC ?_
         refine W.seq ?_
         refine W.block ?_
         refine W.sr env [] [] [0, 6, 13, 14, 15, 33, 34, 35] [6] rfl rfl rfl (.cons (⟨by omega, by omega⟩ : 0 ≤ (i6 : Int) ∧ (i6 : Int) < (((p0.getD i2 default).length : Nat) : Int)) .nil) .nil ?_
         refine W.sr env [] [⟨.bool ((gasolierref01_IsRange ((p0.getD i2 default).getD i6 default) 0 600)), [], 0, []⟩] [0, 13, 14, 15, 33, 34, 35, 41] [] rfl rfl rfl .nil (.free (c_gasolierref01_IsRange ((p0.getD i2 default).getD i6 default) 0 600) .nil) ?_
         refine W.cond rfl (fun hb8 => ?_) (fun hb8 => ?_)
         · have H := of_true H hb8
           refine W.rg env [2] [] ?_
           refine W.ret ?_
           refine At.rinb ?_
           refine At.rthen ?_
           refine At.rthen ?_
           refine At.rinb ?_
           refine At.rinb ?_
           refine At.rthen ?_
           refine At.rthen ?_
           refine At.rinb ?_
           refine At.rthen ?_
           cases H
           exact At.ret env.ty rfl rfl (fun q hq => by cases hq) (.refl _) hval
         · have H := of_false H hb8
           refine W.skip ?_
           refine At.inb ?_
           refine At.thenC ?_
           refine W.region env [] [] rfl rfl rfl (.cons (by unfold inI; have := hn6; (try unfold maxLen at this); omega) .nil) .nil (At.keep (ts := [0, 13, 14, 15, 33, 34, 35]) (ids := []) rfl rfl ?_)
           refine At.thenK (At.keep (ts := [0, 13, 14, 15, 33, 34, 35]) (ids := []) rfl rfl ?_)
           exact At.conv (.cons .q (.cons .q (.cons .qi (.cons .qi (.cons .q (.cons .qi (.cons .qi .nil))))))) .nil (hK6 hi6 () H)
       · have H := H2 (by have := of_decide_eq_false hb7; omega)
         refine W.exit ?_
         refine At.xthen ?_
         refine At.xthen ?_
         refine At.xhere ?_
         refine At.inb ?_
         refine At.thenC ?_
         refine W.region env [] [] rfl rfl rfl (.cons (by unfold inI; have := hn2; (try unfold maxLen at this); omega) .nil) .nil (At.keep (ts := [0, 13, 14, 15]) (ids := []) rfl rfl ?_)
         refine At.thenK (At.keep (ts := [0, 13, 14, 15]) (ids := []) rfl rfl ?_)
         exact At.conv (.cons .q (.cons .q (.cons .qi (.cons .qi .nil)))) .nil (hK2 hi2 () H)
   · have H := H2 (by have := of_decide_eq_false hb3; omega)
     refine W.exit ?_
     refine At.xthen ?_
     refine At.xthen ?_
     refine At.xhere ?_
     refine At.thenC ?_
     refine W.seq ?_
     refine W.rg env [0, 45, 46] [] ?_
     refine W.block ?_
     refine At.keep (ts := [0, 45, 46]) (ids := []) rfl rfl ?_
     refine W.len (t := 0) rfl (fun (hn9 : p0.length ≤ maxLen) => ?_)
     refine W.rangeGo H (fun i9 (s9 : Unit) => [(0, roL 1 enc_ListRange p0), (45, .int .i64 (((p0.length : Nat) : Int))), (46, .int .i64 ((i9 : Int)))]) (fun i9 (s9 : Unit) => []) (.cons .q (.cons .qi (.cons .qi .nil))) .nil (fun k9 i9 s9 hle9 H1 H2 K0 hK9 => ?_)
     refine W.rg env [0, 45, 46, 47] [] ?_
     refine W.seq ?_
     refine W.cond rfl (fun hb10 => ?_) (fun hb10 => ?_)
     · have hi9 : i9 < p0.length := by have := of_decide_eq_true hb10; omega
       have H := H1 hi9
       refine W.skip ?_
       refine At.thenC ?_
       refine W.seq ?_
       refine W.block ?_
       refine W.rg env [0, 7, 45, 46] [] ?_
       refine W.rg env [0, 7, 45, 46, 50, 51] [] ?_
       refine W.block ?_
       refine At.keep (ts := [0, 7, 45, 46, 50, 51]) (ids := []) rfl rfl ?_
       refine W.len (t := 0) rfl (fun (hn11 : p0.length ≤ maxLen) => ?_)
       refine W.rangeGo H (fun i11 (s11 : Unit) => [(0, roL 1 enc_ListRange p0), (7, .int .i64 ((i9 : Int))), (45, .int .i64 (((p0.length : Nat) : Int))), (46, .int .i64 ((i9 : Int))), (50, .int .i64 (((p0.length : Nat) : Int))), (51, .int .i64 ((i11 : Int)))]) (fun i11 (s11 : Unit) => []) (.cons .q (.cons .qi (.cons .qi (.cons .qi (.cons .qi (.cons .qi .nil)))))) .nil (fun k11 i11 s11 hle11 H1 H2 K0 hK11 => ?_)
       refine W.rg env [0, 7, 45, 46, 50, 51, 52] [] ?_
       refine W.seq ?_
       refine W.cond rfl (fun hb12 => ?_) (fun hb12 => ?_)
       · have hi11 : i11 < p0.length := by have := of_decide_eq_true hb12; omega
         have H := H1 hi11
         refine W.skip ?_
         refine At.thenC ?_
         refine W.seq ?_
         refine W.block ?_
         refine W.rg env [0, 7, 8, 45, 46, 50, 51] [] ?_
         refine W.rg env [0, 7, 8, 45, 46, 50, 51, 55, 56] [] ?_
         refine W.block ?_
         refine At.keep (ts := [0, 7, 8, 45, 46, 50, 51, 55, 56]) (ids := []) rfl rfl ?_
         refine W.len (t := 0) rfl (fun (hn13 : p0.length ≤ maxLen) => ?_)
         refine W.rangeGo H (fun i13 (s13 : Unit) => [(0, roL 1 enc_ListRange p0), (7, .int .i64 ((i9 : Int))), (8, .int .i64 ((i11 : Int))), (45, .int .i64 (((p0.length : Nat) : Int))), (46, .int .i64 ((i9 : Int))), (50, .int .i64 (((p0.length : Nat) : Int))), (51, .int .i64 ((i11 : Int))), (55, .int .i64 (((p0.length : Nat) : Int))), (56, .int .i64 ((i13 : Int)))]) (fun i13 (s13 : Unit) => []) (.cons .q (.cons .qi (.cons .qi (.cons .qi (.cons .qi (.cons .qi (.cons .qi (.cons .qi (.cons .qi .nil))))))))) .nil (fun k13 i13 s13 hle13 H1 H2 K0 hK13 => ?_)
         refine W.rg env [0, 7, 8, 45, 46, 50, 51, 55, 56, 57] [] ?_
         refine W.seq ?_
         refine W.cond rfl (fun hb14 => ?_) (fun hb14 => ?_)
         · have hi13 : i13 < p0.length := by have := of_decide_eq_true hb14; omega
           have H := H1 hi13
           refine W.skip ?_
           refine At.thenC ?_
           refine W.seq ?_
           refine W.block ?_
           refine W.rg env [0, 7, 8, 9, 45, 46, 50, 51, 55, 56] [] ?_
           obtain ⟨hc15, H⟩ := of_must H
           obtain ⟨hc16, H⟩ := of_must H
           obtain ⟨hc17, H⟩ := of_must H
           obtain ⟨hc18, H⟩ := of_must H
           obtain ⟨hc19, H⟩ := of_must H
           obtain ⟨hc20, H⟩ := of_must H
           obtain ⟨hc21, H⟩ := of_must H
           obtain ⟨hc22, H⟩ := of_must H
           refine W.sr env [] [] [0, 7, 8, 45, 46, 50, 51, 55, 56, 112] [] rfl rfl (by first | rfl | kernel_rfl) (.cons (⟨by omega, by omega⟩ : 0 ≤ (i9 : Int) ∧ (i9 : Int) < ((p0.length : Nat) : Int)) (.cons hc15 (.cons (⟨by omega, by omega⟩ : 0 ≤ (i9 : Int) ∧ (i9 : Int) < ((p0.length : Nat) : Int)) (.cons hc16 (.cons (⟨by omega, by omega⟩ : 0 ≤ (i11 : Int) ∧ (i11 : Int) < ((p0.length : Nat) : Int)) (.cons hc17 (.cons hc18 (.cons (fun _ => (⟨by omega, by omega⟩ : 0 ≤ (i9 : Int) ∧ (i9 : Int) < ((p0.length : Nat) : Int))) (.cons (fun h => h) (.cons (fun h => h) (.cons (fun h => h) (.cons hc19 (.cons (fun h => h) (.cons (fun h => h) (.cons (fun h => h) (.cons (fun h => h) (.cons (fun _ => (⟨by omega, by omega⟩ : 0 ≤ (i9 : Int) ∧ (i9 : Int) < ((p0.length : Nat) : Int))) (.cons (fun h => h) (.cons (fun h => h) (.cons (fun h => h) (.cons hc20 (.cons (fun h => h) (.cons (fun h => h) (.cons (fun h => h) (.cons (fun h => h) (.cons (fun _ => (⟨by omega, by omega⟩ : 0 ≤ (i11 : Int) ∧ (i11 : Int) < ((p0.length : Nat) : Int))) (.cons (fun h => h) (.cons (fun h => h) (.cons (fun h => h) (.cons hc21 (.cons (fun h => h) (.cons (fun h => h) (.cons (fun h => h) (.cons (fun h => h) (.cons hc22 (.cons (fun h => h) (.cons (fun h => h) (.cons (fun h => h) (.cons (fun h => h) (.cons (fun h => by rw [h]; rfl) .nil)))))))))))))))))))))))))))))))))))))))) .nil ?_
           refine W.cond rfl (fun hb23 => ?_) (fun hb23 => ?_)
           · have H := of_true H hb23
             refine W.rg env [2] [] ?_
             refine W.ret ?_
             refine At.rinb ?_
             refine At.rthen ?_
             refine At.rthen ?_
             refine At.rinb ?_
             refine At.rinb ?_
             refine At.rthen ?_
             refine At.rthen ?_
             refine At.rinb ?_
             refine At.rinb ?_
             refine At.rthen ?_
             refine At.rthen ?_
             refine At.rinb ?_
             refine At.rthen ?_
             cases H
             exact At.ret env.ty rfl rfl (fun q hq => by cases hq) (.refl _) hval
           · have H := of_false H hb23
             refine W.skip ?_
             refine At.inb ?_
             refine At.thenC ?_
             refine W.region env [] [] rfl rfl rfl (.cons (by unfold inI; have := hn13; (try unfold maxLen at this); omega) .nil) .nil (At.keep (ts := [0, 7, 8, 45, 46, 50, 51, 55, 56]) (ids := []) rfl rfl ?_)
             refine At.thenK (At.keep (ts := [0, 7, 8, 45, 46, 50, 51, 55, 56]) (ids := []) rfl rfl ?_)
             exact At.conv (.cons .q (.cons .qi (.cons .qi (.cons .qi (.cons .qi (.cons .qi (.cons .qi (.cons .qi (.cons .qi .nil))))))))) .nil (hK13 hi13 () H)
         · have H := H2 (by have := of_decide_eq_false hb14; omega)
           refine W.exit ?_
           refine At.xthen ?_
           refine At.xthen ?_
           refine At.xhere ?_
           refine At.inb ?_
           refine At.thenC ?_
           refine W.region env [] [] rfl rfl rfl (.cons (by unfold inI; have := hn11; (try unfold maxLen at this); omega) .nil) .nil (At.keep (ts := [0, 7, 45, 46, 50, 51]) (ids := []) rfl rfl ?_)
           refine At.thenK (At.keep (ts := [0, 7, 45, 46, 50, 51]) (ids := []) rfl rfl ?_)
           exact At.conv (.cons .q (.cons .qi (.cons .qi (.cons .qi (.cons .qi (.cons .qi .nil)))))) .nil (hK11 hi11 () H)
       · have H := H2 (by have := of_decide_eq_false hb12; omega)
         refine W.exit ?_
         refine At.xthen ?_
         refine At.xthen ?_
         refine At.xhere ?_
         refine At.inb ?_
         refine At.thenC ?_
         refine W.region env [] [] rfl rfl rfl (.cons (by unfold inI; have := hn9; (try unfold maxLen at this); omega) .nil) .nil (At.keep (ts := [0, 45, 46]) (ids := []) rfl rfl ?_)
         refine At.thenK (At.keep (ts := [0, 45, 46]) (ids := []) rfl rfl ?_)
         exact At.conv (.cons .q (.cons .qi (.cons .qi .nil))) .nil (hK9 hi9 () H)
     · have H := H2 (by have := of_decide_eq_false hb10; omega)
       refine W.exit ?_
       refine At.xthen ?_
       refine At.xthen ?_
       refine At.xhere ?_
       refine At.thenC ?_
       refine W.rg env [2] [] ?_
       refine W.ret ?_
       cases H
       exact At.ret env.ty rfl rfl (fun q hq => by cases hq) (.refl _) hval
theorem c_gasolierref01_Within (p0 : Int) (p1 : Int) (p2 : Int) : Ctr Tryz.prog 62 [.int .i64 (p0), .int .i64 (p1), .int .i64 (p2)] (.bool ((gasolierref01_Within p0 p1 p2))) := by
 obtain ⟨r, H⟩ : ∃ r, gasolierref01_Within p0 p1 p2 = r := ⟨_, rfl⟩
 rw [H]
 unfold gasolierref01_Within at H
 refine Ctr.of_body (N := 15) Tryz.func62 (by kernel_rfl) (c := _) rfl Tryz.ntmps62 rfl (fun w0 h0 hval => ?_)
 refine W.rg env [0, 1, 2] [] ?_
 refine W.sr env [] [] [6] [] rfl rfl rfl (.cons (fun h => h) (.cons (fun h => h) (.cons (fun h => h) .nil))) .nil ?_
 refine W.ret ?_
 cases H
 exact At.ret env.ty rfl rfl (fun q hq => by cases hq) (.refl _) hval
theorem c_gasolierref04_CheckTask (p0 : Task) : Ctr Tryz.prog 29 [.agg [.int .i64 (p0.Lamp), .int .i64 (p0.Place), .int .i64 (p0.At), .int .i64 (p0.Serve)]] (.int .i64 ((gasolierref04_CheckTask p0))) := by
 obtain ⟨r, H⟩ : ∃ r, gasolierref04_CheckTask p0 = r := ⟨_, rfl⟩
 rw [H]
 unfold gasolierref04_CheckTask at H
 refine Ctr.of_body (N := 25) Tryz.func29 (by kernel_rfl) (c := _) rfl Tryz.ntmps29 rfl (fun w0 h0 hval => ?_)
 refine W.rg env [1] [1] ?_
 refine W.seq ?_
 refine W.sr env [] [⟨.bool ((gasolierref01_Within p0.Lamp 1 999)), [], 0, []⟩, ⟨.bool ((gasolierref01_Within p0.Place 0 11)), [], 0, []⟩, ⟨.bool ((gasolierref01_Within p0.At 0 1439)), [], 0, []⟩, ⟨.bool ((gasolierref01_Within p0.Serve 1 120)), [], 0, []⟩] [24] [] rfl rfl rfl (.cons (fun h => h) (.cons (fun h => h) (.cons (fun h => h) (.cons (fun h => by rw [h]; rfl) (.cons (fun h => h) (.cons (fun h => h) (.cons (fun h => h) (.cons (fun h => by rw [h]; rfl) (.cons (fun h => h) (.cons (fun h => h) (.cons (fun h => h) (.cons (fun h => by rw [h]; rfl) .nil)))))))))))) (.free (c_gasolierref01_Within p0.Lamp 1 999) (.on (fun hW => c_gasolierref01_Within p0.Place 0 11) (.on (fun hW => c_gasolierref01_Within p0.At 0 1439) (.on (fun hW => c_gasolierref01_Within p0.Serve 1 120) .nil)))) ?_
 refine W.cond rfl (fun hb1 => ?_) (fun hb1 => ?_)
 · have H := of_true H hb1
   refine W.rg env [2] [] ?_
   refine W.ret ?_
   refine At.rthen ?_
   cases H
   exact At.ret env.ty rfl rfl (fun q hq => by cases hq) (.refl _) hval
 · have H := of_false H hb1
   refine W.skip ?_
   refine At.thenC ?_
   refine W.rg env [2] [] ?_
   refine W.ret ?_
   cases H
   exact At.ret env.ty rfl rfl (fun q hq => by cases hq) (.refl _) hval
theorem c_gasolierref04_CheckHand (p0 : Hand) : Ctr Tryz.prog 31 [.agg [.int .i64 (p0.Id), .int .i64 (p0.From), .int .i64 (p0.To)]] (.int .i64 ((gasolierref04_CheckHand p0))) := by
 obtain ⟨r, H⟩ : ∃ r, gasolierref04_CheckHand p0 = r := ⟨_, rfl⟩
 rw [H]
 unfold gasolierref04_CheckHand at H
 refine Ctr.of_body (N := 16) Tryz.func31 (by kernel_rfl) (c := _) rfl Tryz.ntmps31 rfl (fun w0 h0 hval => ?_)
 refine W.rg env [1] [1] ?_
 refine W.seq ?_
 refine W.sr env [] [⟨.bool ((gasolierref01_Within p0.Id 1 99)), [], 0, []⟩, ⟨.bool ((gasolierref01_IsRange (⟨p0.From, p0.To⟩ : Range) 0 1439)), [], 0, []⟩] [15] [] rfl rfl rfl (.cons (fun h => h) (.cons (fun h => h) (.cons (fun h => h) (.cons (fun h => h) (.cons (fun h => h) (.cons (fun h => h) (.cons (fun h => by rw [h]; rfl) .nil))))))) (.free (c_gasolierref01_Within p0.Id 1 99) (.on (fun hW => c_gasolierref01_IsRange (⟨p0.From, p0.To⟩ : Range) 0 1439) .nil)) ?_
 refine W.cond rfl (fun hb1 => ?_) (fun hb1 => ?_)
 · have H := of_true H hb1
   refine W.rg env [2] [] ?_
   refine W.ret ?_
   refine At.rthen ?_
   cases H
   exact At.ret env.ty rfl rfl (fun q hq => by cases hq) (.refl _) hval
 · have H := of_false H hb1
   refine W.skip ?_
   refine At.thenC ?_
   refine W.rg env [2] [] ?_
   refine W.ret ?_
   cases H
   exact At.ret env.ty rfl rfl (fun q hq => by cases hq) (.refl _) hval
theorem c_gasolierref04_Check (p0 : Crew) {r : Int} (H : gasolierref04_Check p0 = some r) : Ctr Tryz.prog 33 [.agg [roL 4 enc_Task p0.Tasks, roL 1 enc_ListRange p0.Travel, roL 3 enc_Hand p0.Hands]] (.int .i64 (r)) := by
 unfold gasolierref04_Check at H
 refine Ctr.of_body (N := 87) Tryz.func33 (by kernel_rfl) (c := _) rfl Tryz.ntmps33 rfl (fun w0 h0 hval => ?_)
 refine W.rg env [1] [1] ?_
 refine W.seq ?_
 refine W.seq ?_
 obtain ⟨y1, hy2, H⟩ := of_bindO H
 refine W.region env [] [⟨.bool (y1), [], 0, []⟩] rfl rfl rfl (.cons (fun h => h) (.cons (fun h => h) (.cons (fun h => h) (.cons (fun h => by rw [h]; rfl) (.cons (fun h => h) (.cons (fun h => h) (.cons (fun h => h) (.cons (fun h => by rw [h]; rfl) .nil)))))))) (.on (fun hW => c_gasolierref04_isTravel p0.Travel (of_true hy2 hW)) .nil) (At.keep (ts := [1, 22]) (ids := [1]) rfl rfl ?_)
 refine At.thenC ?_
 refine W.cond rfl (fun hb3 => ?_) (fun hb3 => ?_)
 · have H := of_true H hb3
   refine W.rg env [2] [] ?_
   refine W.ret ?_
   refine At.rthen ?_
   cases H
   exact At.ret env.ty rfl rfl (fun q hq => by cases hq) (.refl _) hval
 · have H := of_false H hb3
   refine W.skip ?_
   refine At.thenC ?_
   refine W.seq ?_
   refine W.rg env [1, 24, 25, 26] [1] ?_
   refine W.block ?_
   refine At.keep (ts := [1, 24, 25, 26]) (ids := [1]) rfl rfl ?_
   refine W.len (t := 24) rfl (fun (hn4 : p0.Tasks.length ≤ maxLen) => ?_)
   refine W.rangeGo H (fun i4 (s4 : Unit) => [(1, .lp 1 0), (24, roL 4 enc_Task p0.Tasks), (25, .int .i64 (((p0.Tasks.length : Nat) : Int))), (26, .int .i64 ((i4 : Int)))]) (fun i4 (s4 : Unit) => [(1, .cells [roL 4 enc_Task p0.Tasks, roL 1 enc_ListRange p0.Travel, roL 3 enc_Hand p0.Hands])]) (.cons .q (.cons .q (.cons .qi (.cons .qi .nil)))) (.cons .q .nil) (fun k4 i4 s4 hle4 H1 H2 K0 hK4 => ?_)
   refine W.rg env [1, 24, 25, 26, 27] [1] ?_
   refine W.seq ?_
   refine W.cond rfl (fun hb5 => ?_) (fun hb5 => ?_)
   · have hi4 : i4 < p0.Tasks.length := by have := of_decide_eq_true hb5; omega
     have H := H1 hi4
     refine W.skip ?_
     refine At.thenC ?_
     refine W.seq ?_
     refine W.block ?_
     refine W.sr env [] [] [1, 3, 4, 24, 25, 26] [1, 4] rfl rfl rfl (.cons (⟨by omega, by omega⟩ : 0 ≤ (i4 : Int) ∧ (i4 : Int) < ((p0.Tasks.length : Nat) : Int)) .nil) .nil ?_
     obtain ⟨hc6, H⟩ := of_must H
     obtain ⟨hc7, H⟩ := of_must H
     refine W.sr env [] [⟨.int .i64 ((gasolierref04_CheckTask (p0.Tasks.getD i4 default))), [], 0, []⟩] [1, 24, 25, 26, 57] [1] rfl rfl (by kernel_rfl) (.cons (fun h => h) (.cons (fun h => h) (.cons (fun h => h) (.cons (fun h => h) (.cons (fun h => h) (.cons (fun h => by rw [h]; rfl) (.cons (fun h => h) (.cons (fun h => h) (.cons (fun h => h) (.cons hc6 (.cons (fun h => h) (.cons hc7 (.cons (fun h => h) (.cons (fun h => h) (.cons (fun h => h) (.cons (fun h => h) (.cons (fun h => h) (.cons (fun h => h) (.cons (fun h => h) (.cons (fun h => h) (.cons (fun hW h => by revert hW h; first | (simp +contextual; done) | grind) (.cons (fun h => by rw [h]; rfl) .nil)))))))))))))))))))))) (.free (c_gasolierref04_CheckTask (p0.Tasks.getD i4 default)) .nil) ?_
     refine W.cond rfl (fun hb8 => ?_) (fun hb8 => ?_)
     · have H := of_true H hb8
       refine W.rg env [2] [] ?_
       refine W.ret ?_
       refine At.rinb ?_
       refine At.rthen ?_
       refine At.rthen ?_
       refine At.rinb ?_
       refine At.rthen ?_
       cases H
       exact At.ret env.ty rfl rfl (fun q hq => by cases hq) (.refl _) hval
     · have H := of_false H hb8
       refine W.skip ?_
       refine At.inb ?_
       refine At.thenC ?_
       refine W.region env [] [] rfl rfl rfl (.cons (by unfold inI; have := hn4; (try unfold maxLen at this); omega) .nil) .nil (At.keep (ts := [1, 24, 25, 26]) (ids := [1]) rfl rfl ?_)
       refine At.thenK (At.keep (ts := [1, 24, 25, 26]) (ids := [1]) rfl rfl ?_)
       exact At.conv (.cons .q (.cons .q (.cons .qi (.cons .qi .nil)))) (.cons .q .nil) (hK4 hi4 () H)
   · have H := H2 (by have := of_decide_eq_false hb5; omega)
     refine W.exit ?_
     refine At.xthen ?_
     refine At.xthen ?_
     refine At.xhere ?_
     refine At.thenC ?_
     refine W.seq ?_
     refine W.rg env [1, 60, 61, 62] [1] ?_
     refine W.block ?_
     refine At.keep (ts := [1, 60, 61, 62]) (ids := [1]) rfl rfl ?_
     refine W.len (t := 60) rfl (fun (hn9 : p0.Hands.length ≤ maxLen) => ?_)
     refine W.rangeGo H (fun i9 (s9 : Unit) => [(1, .lp 1 0), (60, roL 3 enc_Hand p0.Hands), (61, .int .i64 (((p0.Hands.length : Nat) : Int))), (62, .int .i64 ((i9 : Int)))]) (fun i9 (s9 : Unit) => [(1, .cells [roL 4 enc_Task p0.Tasks, roL 1 enc_ListRange p0.Travel, roL 3 enc_Hand p0.Hands])]) (.cons .q (.cons .q (.cons .qi (.cons .qi .nil)))) (.cons .q .nil) (fun k9 i9 s9 hle9 H1 H2 K0 hK9 => ?_)
     refine W.rg env [1, 60, 61, 62, 63] [1] ?_
     refine W.seq ?_
     refine W.cond rfl (fun hb10 => ?_) (fun hb10 => ?_)
     · have hi9 : i9 < p0.Hands.length := by have := of_decide_eq_true hb10; omega
       have H := H1 hi9
       refine W.skip ?_
       refine At.thenC ?_
       refine W.seq ?_
       refine W.block ?_
       refine W.sr env [] [] [1, 5, 6, 60, 61, 62] [1, 6] rfl rfl rfl (.cons (⟨by omega, by omega⟩ : 0 ≤ (i9 : Int) ∧ (i9 : Int) < ((p0.Hands.length : Nat) : Int)) .nil) .nil ?_
       obtain ⟨hc11, H⟩ := of_must H
       obtain ⟨hc12, H⟩ := of_must H
       refine W.sr env [] [⟨.int .i64 ((gasolierref04_CheckHand (p0.Hands.getD i9 default))), [], 0, []⟩] [1, 60, 61, 62, 85] [1] rfl rfl (by kernel_rfl) (.cons (fun h => h) (.cons (fun h => h) (.cons (fun h => h) (.cons hc11 (.cons (fun h => h) (.cons hc12 (.cons (fun h => h) (.cons (fun h => h) (.cons (fun h => h) (.cons (fun h => h) (.cons (fun h => h) (.cons (fun h => h) (.cons (fun h => h) (.cons (fun h => h) (.cons (fun hW h => by revert hW h; first | (simp +contextual; done) | grind) (.cons (fun h => by rw [h]; rfl) .nil)))))))))))))))) (.free (c_gasolierref04_CheckHand (p0.Hands.getD i9 default)) .nil) ?_
       refine W.cond rfl (fun hb13 => ?_) (fun hb13 => ?_)
       · have H := of_true H hb13
         refine W.rg env [2] [] ?_
         refine W.ret ?_
         refine At.rinb ?_
         refine At.rthen ?_
         refine At.rthen ?_
         refine At.rinb ?_
         refine At.rthen ?_
         cases H
         exact At.ret env.ty rfl rfl (fun q hq => by cases hq) (.refl _) hval
       · have H := of_false H hb13
         refine W.skip ?_
         refine At.inb ?_
         refine At.thenC ?_
         refine W.region env [] [] rfl rfl rfl (.cons (by unfold inI; have := hn9; (try unfold maxLen at this); omega) .nil) .nil (At.keep (ts := [1, 60, 61, 62]) (ids := [1]) rfl rfl ?_)
         refine At.thenK (At.keep (ts := [1, 60, 61, 62]) (ids := [1]) rfl rfl ?_)
         exact At.conv (.cons .q (.cons .q (.cons .qi (.cons .qi .nil)))) (.cons .q .nil) (hK9 hi9 () H)
     · have H := H2 (by have := of_decide_eq_false hb10; omega)
       refine W.exit ?_
       refine At.xthen ?_
       refine At.xthen ?_
       refine At.xhere ?_
       refine At.thenC ?_
       refine W.rg env [2] [] ?_
       refine W.ret ?_
       cases H
       exact At.ret env.ty rfl rfl (fun q hq => by cases hq) (.refl _) hval
theorem c_gasolierref04_follows (p0 : Crew) (p1 : Int) (p2 : Int) {r : Int} (H : gasolierref04_follows p0 p1 p2 = some r) : Ctr Tryz.prog 82 [.agg [roL 4 enc_Task p0.Tasks, roL 1 enc_ListRange p0.Travel, roL 3 enc_Hand p0.Hands], .int .i64 (p1), .int .i64 (p2)] (.int .i64 (r)) := by
 unfold gasolierref04_follows at H
 refine Ctr.of_body (N := 52) Tryz.func82 (by kernel_rfl) (c := _) rfl Tryz.ntmps82 rfl (fun w0 h0 hval => ?_)
 refine W.rg env [1, 2, 3] [3] ?_
 obtain ⟨hc1, H⟩ := of_must H
 refine W.sr env [] [] [2, 3, 7] [3, 7] rfl rfl rfl (.cons hc1 .nil) .nil ?_
 obtain ⟨hc2, H⟩ := of_must H
 refine W.sr env [] [] [3, 7, 8] [3, 7, 8] rfl rfl rfl (.cons hc2 .nil) .nil ?_
 obtain ⟨hc3, H⟩ := of_must H
 obtain ⟨hc4, H⟩ := of_must H
 refine W.sr env [] [] [7, 8, 9] [7, 8, 9] rfl rfl (by first | rfl | kernel_rfl) (.cons hc3 (.cons hc4 .nil)) .nil ?_
 refine W.seq ?_
 obtain ⟨hc5, H⟩ := of_must H
 obtain ⟨hc6, H⟩ := of_must H
 refine W.sr env [] [] [7, 8, 9, 40] [7, 8, 9] rfl rfl rfl (.cons hc5 (.cons hc6 .nil)) .nil ?_
 refine W.cond rfl (fun hb7 => ?_) (fun hb7 => ?_)
 · have H := of_true H hb7
   refine W.rg env [6] [] ?_
   refine W.ret ?_
   refine At.rthen ?_
   cases H
   exact At.ret env.ty rfl rfl (fun q hq => by cases hq) (.refl _) hval
 · have H := of_false H hb7
   refine W.skip ?_
   refine At.thenC ?_
   refine W.seq ?_
   obtain ⟨hc8, H⟩ := of_must H
   obtain ⟨hc9, H⟩ := of_must H
   refine W.sr env [] [] [51] [] rfl rfl rfl (.cons hc8 (.cons hc9 .nil)) .nil ?_
   refine W.cond rfl (fun hb10 => ?_) (fun hb10 => ?_)
   · have H := of_true H hb10
     refine W.rg env [6] [] ?_
     refine W.ret ?_
     refine At.rthen ?_
     cases H
     exact At.ret env.ty rfl rfl (fun q hq => by cases hq) (.refl _) hval
   · have H := of_false H hb10
     refine W.skip ?_
     refine At.thenC ?_
     refine W.rg env [6] [] ?_
     refine W.ret ?_
     cases H
     exact At.ret env.ty rfl rfl (fun q hq => by cases hq) (.refl _) hval
theorem c_gasolierref04_isRound (p0 : Crew) (p1 : (List Int)) {r : Bool} (H : gasolierref04_isRound p0 p1 = some r) : Ctr Tryz.prog 38 [.agg [roL 4 enc_Task p0.Tasks, roL 1 enc_ListRange p0.Travel, roL 3 enc_Hand p0.Hands], roL 1 enc_Int p1] (.bool (r)) := by
 unfold gasolierref04_isRound at H
 refine Ctr.of_body (N := 40) Tryz.func38 (by kernel_rfl) (c := _) rfl Tryz.ntmps38 rfl (fun w0 h0 hval => ?_)
 refine W.rg env [1, 2] [2] ?_
 refine W.seq ?_
 refine W.rg env [1, 2, 7, 8, 9] [2] ?_
 refine W.block ?_
 refine At.keep (ts := [1, 2, 7, 8, 9]) (ids := [2]) rfl rfl ?_
 refine W.len (t := 7) rfl (fun (hn1 : p1.length ≤ maxLen) => ?_)
 refine W.rangeGo H (fun i1 (s1 : Unit) => [(1, roL 1 enc_Int p1), (2, .lp 2 0), (7, roL 1 enc_Int p1), (8, .int .i64 (((p1.length : Nat) : Int))), (9, .int .i64 ((i1 : Int)))]) (fun i1 (s1 : Unit) => [(2, .cells [roL 4 enc_Task p0.Tasks, roL 1 enc_ListRange p0.Travel, roL 3 enc_Hand p0.Hands])]) (.cons .q (.cons .q (.cons .q (.cons .qi (.cons .qi .nil))))) (.cons .q .nil) (fun k1 i1 s1 hle1 H1 H2 K0 hK1 => ?_)
 refine W.rg env [1, 2, 7, 8, 9, 10] [2] ?_
 refine W.seq ?_
 refine W.cond rfl (fun hb2 => ?_) (fun hb2 => ?_)
 · have hi1 : i1 < p1.length := by have := of_decide_eq_true hb2; omega
   have H := H1 hi1
   refine W.skip ?_
   refine At.thenC ?_
   refine W.seq ?_
   refine W.block ?_
   refine W.sr env [] [] [1, 2, 5, 6, 7, 8, 9] [2] rfl rfl rfl (.cons (⟨by omega, by omega⟩ : 0 ≤ (i1 : Int) ∧ (i1 : Int) < ((p1.length : Nat) : Int)) .nil) .nil ?_
   refine W.seq ?_
   obtain ⟨hc3, H⟩ := of_must H
   obtain ⟨hc4, H⟩ := of_must H
   obtain ⟨hc5, H⟩ := of_must H
   obtain ⟨y6, hy7, H⟩ := of_bindO H
   refine W.region env [] [⟨.bool ((gasolierref01_Within (p1.getD i1 default) 0 (((p0.Tasks.length : Nat) : Int) - 1))), [], 0, []⟩, ⟨.int .i64 (y6), [], 0, []⟩] rfl rfl (by kernel_rfl) (.cons hc3 (.cons (fun h => h) (.cons (fun h => h) (.cons hc4 (.cons (fun h => h) (.cons hc5 (.cons (fun h => h) (.cons (fun h => h) (.cons (fun h => h) (.cons (fun h => h) (.cons (fun h => h) (.cons (fun h => h) (.cons (fun h => h) (.cons (fun h => h) (.cons (fun hW h => by revert hW h; first | (simp +contextual; done) | grind) (.cons (fun h => by rw [h]; rfl) .nil)))))))))))))))) (.free (c_gasolierref01_Within (p1.getD i1 default) 0 (((p0.Tasks.length : Nat) : Int) - 1)) (.on (fun hW => c_gasolierref04_follows p0 (p1.getD (((i1 : Int) - 1)).toNat default) (p1.getD i1 default) (of_true hy7 hW)) .nil)) (At.keep (ts := [1, 2, 7, 8, 9, 35]) (ids := [2]) rfl rfl ?_)
   refine At.thenC ?_
   refine W.cond rfl (fun hb8 => ?_) (fun hb8 => ?_)
   · have H := of_true H hb8
     refine W.rg env [4] [] ?_
     refine W.ret ?_
     refine At.rinb ?_
     refine At.rthen ?_
     refine At.rthen ?_
     refine At.rinb ?_
     refine At.rthen ?_
     cases H
     exact At.ret env.ty rfl rfl (fun q hq => by cases hq) (.refl _) hval
   · have H := of_false H hb8
     refine W.skip ?_
     refine At.inb ?_
     refine At.thenC ?_
     refine W.region env [] [] rfl rfl rfl (.cons (by unfold inI; have := hn1; (try unfold maxLen at this); omega) .nil) .nil (At.keep (ts := [1, 2, 7, 8, 9]) (ids := [2]) rfl rfl ?_)
     refine At.thenK (At.keep (ts := [1, 2, 7, 8, 9]) (ids := [2]) rfl rfl ?_)
     exact At.conv (.cons .q (.cons .q (.cons .q (.cons .qi (.cons .qi .nil))))) (.cons .q .nil) (hK1 hi1 () H)
 · have H := H2 (by have := of_decide_eq_false hb2; omega)
   refine W.exit ?_
   refine At.xthen ?_
   refine At.xthen ?_
   refine At.xhere ?_
   refine At.thenC ?_
   refine W.rg env [4] [] ?_
   refine W.ret ?_
   cases H
   exact At.ret env.ty rfl rfl (fun q hq => by cases hq) (.refl _) hval
theorem c_gasolierref04_able (p0 : Crew) (p1 : Hand) (p2 : (List Int)) {r : Bool} (H : gasolierref04_able p0 p1 p2 = some r) : Ctr Tryz.prog 39 [.agg [roL 4 enc_Task p0.Tasks, roL 1 enc_ListRange p0.Travel, roL 3 enc_Hand p0.Hands], .agg [.int .i64 (p1.Id), .int .i64 (p1.From), .int .i64 (p1.To)], roL 1 enc_Int p2] (.bool (r)) := by
 unfold gasolierref04_able at H
 refine Ctr.of_body (N := 39) Tryz.func39 (by kernel_rfl) (c := _) rfl Tryz.ntmps39 rfl (fun w0 h0 hval => ?_)
 refine W.rg env [2, 3, 4] [3, 4] ?_
 obtain ⟨hc1, H⟩ := of_must H
 obtain ⟨hc2, H⟩ := of_must H
 obtain ⟨hc3, H⟩ := of_must H
 refine W.sr env [] [] [2, 3, 4, 7] [3, 4, 7] rfl rfl (by first | rfl | kernel_rfl) (.cons hc1 (.cons hc2 (.cons hc3 .nil))) .nil ?_
 obtain ⟨hc4, H⟩ := of_must H
 obtain ⟨hc5, H⟩ := of_must H
 obtain ⟨hc6, H⟩ := of_must H
 refine W.sr env [] [] [6] [] rfl rfl (by first | rfl | kernel_rfl) (.cons hc4 (.cons hc5 (.cons (fun h => h) (.cons (fun h => h) (.cons (fun h => h) (.cons hc6 (.cons (fun h => h) (.cons (fun h => h) (.cons (fun h => h) (.cons (fun h => h) (.cons (fun h => h) .nil))))))))))) .nil ?_
 refine W.ret ?_
 cases H
 exact At.ret env.ty rfl rfl (fun q hq => by cases hq) (.refl _) hval
theorem c_gasolierref04_Able (p0 : Crew) (p1 : (List Int)) {r : ((List Int) × Int)} (H : gasolierref04_Able p0 p1 = some r) : Ctr Tryz.prog 6 [.agg [roL 4 enc_Task p0.Tasks, roL 1 enc_ListRange p0.Travel, roL 3 enc_Hand p0.Hands], roL 1 enc_Int p1] (.tup [roL 1 enc_Int r.1, .int .i64 (r.2)]) := by
 unfold gasolierref04_Able at H
 refine Ctr.of_body (N := 37) Tryz.func6 (by kernel_rfl) (c := _) rfl Tryz.ntmps6 rfl (fun w0 h0 hval => ?_)
 refine W.rg env [1, 2] [2] ?_
 refine W.seq ?_
 refine W.seq ?_
 obtain ⟨y1, hy2, H⟩ := of_bindO H
 refine W.region env [] [⟨.int .i64 (y1), [], 0, []⟩] rfl rfl rfl .nil (.free (c_gasolierref04_Check p0 hy2) .nil) (At.keep (ts := [1, 2, 6]) (ids := [2]) rfl rfl ?_)
 refine At.thenC ?_
 refine W.rg env [1, 2, 6, 13] [2] ?_
 refine W.cond rfl (fun hb3 => ?_) (fun hb3 => ?_)
 · have H := of_true H hb3
   refine W.rg env [4, 5] [] ?_
   refine W.ret ?_
   refine At.rthen ?_
   cases H
   exact At.ret env.ty rfl rfl (fun q hq => by cases hq) (Sim.tupL (.cons (Sim.nil _ _) (.cons (.refl _) .nil))) hval
 · have H := of_false H hb3
   refine W.skip ?_
   refine At.thenC ?_
   refine W.seq ?_
   refine W.seq ?_
   obtain ⟨y4, hy5, H⟩ := of_bindO H
   refine W.region env [] [⟨.bool (y4), [], 0, []⟩] rfl rfl rfl .nil (.free (c_gasolierref04_isRound p0 p1 hy5) .nil) (At.keep (ts := [1, 2, 18]) (ids := [2]) rfl rfl ?_)
   refine At.thenC ?_
   refine W.cond rfl (fun hb6 => ?_) (fun hb6 => ?_)
   · have H := of_true H hb6
     refine W.rg env [4, 5] [] ?_
     refine W.ret ?_
     refine At.rthen ?_
     cases H
     exact At.ret env.ty rfl rfl (fun q hq => by cases hq) (Sim.tupL (.cons (Sim.nil _ _) (.cons (.refl _) .nil))) hval
   · have H := of_false H hb6
     refine W.skip ?_
     refine At.thenC ?_
     refine W.rg env [1, 2, 7] [2] ?_
     refine W.seq ?_
     refine W.rg env [1, 2, 7, 20, 21, 22] [2] ?_
     refine W.block ?_
     refine At.nilOwn 7 507 3 1 (e := fun i => enc_Int (([] : List Int).getD i default)) rfl rfl ?_
     refine At.keep (ts := [1, 2, 7, 20, 21, 22]) (ids := [2, 507]) rfl rfl ?_
     refine W.len (t := 20) rfl (fun (hn7 : p0.Hands.length ≤ maxLen) => ?_)
     refine W.rangeGo H (fun i7 (s7 : (List Int)) => [(1, roL 1 enc_Int p1), (2, .lp 2 0), (7, .buf 507 (s7).length), (20, roL 3 enc_Hand p0.Hands), (21, .int .i64 (((p0.Hands.length : Nat) : Int))), (22, .int .i64 ((i7 : Int)))]) (fun i7 (s7 : (List Int)) => [(2, .cells [roL 4 enc_Task p0.Tasks, roL 1 enc_ListRange p0.Travel, roL 3 enc_Hand p0.Hands]), (507, bufL 3 1 enc_Int s7)]) (.cons .q (.cons .q (.cons .qb (.cons .q (.cons .qi (.cons .qi .nil)))))) (.cons .q (.cons .q .nil)) (fun k7 i7 s7 hle7 H1 H2 K0 hK7 => ?_)
     refine W.rg env [1, 2, 7, 20, 21, 22, 23] [2, 507] ?_
     refine W.seq ?_
     refine W.cond rfl (fun hb8 => ?_) (fun hb8 => ?_)
     · have hi7 : i7 < p0.Hands.length := by have := of_decide_eq_true hb8; omega
       have H := H1 hi7
       refine W.skip ?_
       refine At.thenC ?_
       refine W.seq ?_
       refine W.block ?_
       refine W.sr env [] [] [1, 2, 7, 9, 20, 21, 22] [2, 9, 507] rfl rfl rfl (.cons (⟨by omega, by omega⟩ : 0 ≤ (i7 : Int) ∧ (i7 : Int) < ((p0.Hands.length : Nat) : Int)) .nil) .nil ?_
       refine W.seq ?_
       obtain ⟨y9, hy10, H⟩ := of_bindO H
       refine W.region env [] [⟨.bool (y9), [], 0, []⟩] rfl rfl rfl .nil (.free (c_gasolierref04_able p0 (p0.Hands.getD i7 default) p1 hy10) .nil) (At.keep (ts := [1, 2, 7, 9, 20, 21, 22, 29]) (ids := [2, 9, 507]) rfl rfl ?_)
       refine At.thenC ?_
       refine W.cond rfl (fun hb11 => ?_) (fun hb11 => ?_)
       · have H := of_true H hb11
         obtain ⟨hc12, H⟩ := of_must H
         refine W.region env [] [] rfl rfl rfl (.cons (⟨by first | rfl | (simp; done) | omega | (simp; omega), by have := hc12; first | simpa using this | (unfold room at this ⊢; simp at this ⊢; omega)⟩) .nil) .nil (At.keep (ts := [1, 2, 7, 20, 21, 22]) (ids := [2, 507]) rfl rfl ?_)
         refine At.convM (.cons (.refl _) (.cons (y := bufL 3 1 enc_Int (s7 ++ ([(p0.Hands.getD i7 default).Id] : List Int))) (BSim.seg (Seg.push (Seg.refl enc_Int _) (Seg.lit (f := enc_Int) (sz := 1) ([(p0.Hands.getD i7 default).Id] : List Int) rfl rfl (fun _ => rfl)))) .nil)) ?_
         refine At.inb ?_
         refine At.thenC ?_
         refine W.region env [] [] rfl rfl rfl (.cons (by unfold inI; have := hn7; (try unfold maxLen at this); omega) .nil) .nil (At.keep (ts := [1, 2, 7, 20, 21, 22]) (ids := [2, 507]) rfl rfl ?_)
         refine At.thenK (At.keep (ts := [1, 2, 7, 20, 21, 22]) (ids := [2, 507]) rfl rfl ?_)
         exact At.conv (.cons .q (.cons .q (.cons .qb (.cons .q (.cons .qi (.cons .qi .nil)))))) (.cons .q (.cons .q .nil)) (hK7 hi7 (s7 ++ ([(p0.Hands.getD i7 default).Id] : List Int)) H)
       · have H := of_false H hb11
         refine W.skip ?_
         refine At.inb ?_
         refine At.thenC ?_
         refine W.region env [] [] rfl rfl rfl (.cons (by unfold inI; have := hn7; (try unfold maxLen at this); omega) .nil) .nil (At.keep (ts := [1, 2, 7, 20, 21, 22]) (ids := [2, 507]) rfl rfl ?_)
         refine At.thenK (At.keep (ts := [1, 2, 7, 20, 21, 22]) (ids := [2, 507]) rfl rfl ?_)
         exact At.conv (.cons .q (.cons .q (.cons .qb (.cons .q (.cons .qi (.cons .qi .nil)))))) (.cons .q (.cons .q .nil)) (hK7 hi7 s7 H)
     · have H := H2 (by have := of_decide_eq_false hb8; omega)
       refine W.exit ?_
       refine At.xthen ?_
       refine At.xthen ?_
       refine At.xhere ?_
       refine At.thenC ?_
       refine W.rg env [4, 5] [507] ?_
       refine W.ret ?_
       cases H
       exact At.ret env.ty rfl rfl (fun q hq => by cases hq; exact (by first | rfl | (simp; done) | omega | (simp; omega))) (.refl _) hval
theorem c_crew_plan__areRounds (p0 : crew_plan) (p1 : (List (List Int))) {r : Bool} (H : crew_plan__areRounds p0 p1 = some r) : Ctr Tryz.prog 83 [.rp [roL 4 enc_Task p0.Crew.Tasks, roL 1 enc_ListRange p0.Crew.Travel, roL 3 enc_Hand p0.Crew.Hands, roL 1 enc_Int p0.next], roL 1 enc_ListInt p1] (.bool (r)) := by
 unfold crew_plan__areRounds at H
 refine Ctr.of_body (N := 64) Tryz.func83 (by kernel_rfl) (c := _) rfl Tryz.ntmps83 rfl (fun w0 h0 hval => ?_)
 refine W.rg env [0, 1] [] ?_
 refine W.rg env [0, 1, 5] [] ?_
 refine W.seq ?_
 refine W.rg env [0, 1, 5, 10, 11, 12] [] ?_
 refine W.block ?_
 refine At.keep (ts := [0, 1, 5, 10, 11, 12]) (ids := []) rfl rfl ?_
 refine W.len (t := 10) rfl (fun (hn1 : p1.length ≤ maxLen) => ?_)
 refine W.rangeGo H (fun i1 (s1 : Int) => [(0, .rp [roL 4 enc_Task p0.Crew.Tasks, roL 1 enc_ListRange p0.Crew.Travel, roL 3 enc_Hand p0.Crew.Hands, roL 1 enc_Int p0.next]), (1, roL 1 enc_ListInt p1), (5, .int .i64 (s1)), (10, roL 1 enc_ListInt p1), (11, .int .i64 (((p1.length : Nat) : Int))), (12, .int .i64 ((i1 : Int)))]) (fun i1 (s1 : Int) => []) (.cons .q (.cons .q (.cons .qi (.cons .q (.cons .qi (.cons .qi .nil)))))) .nil (fun k1 i1 s1 hle1 H1 H2 K0 hK1 => ?_)
 refine W.rg env [0, 1, 5, 10, 11, 12, 13] [] ?_
 refine W.seq ?_
 refine W.cond rfl (fun hb2 => ?_) (fun hb2 => ?_)
 · have hi1 : i1 < p1.length := by have := of_decide_eq_true hb2; omega
   have H := H1 hi1
   refine W.skip ?_
   refine At.thenC ?_
   refine W.seq ?_
   refine W.block ?_
   refine W.sr env [] [] [0, 1, 5, 6, 7, 10, 11, 12] [] rfl rfl rfl (.cons (⟨by omega, by omega⟩ : 0 ≤ (i1 : Int) ∧ (i1 : Int) < ((p1.length : Nat) : Int)) .nil) .nil ?_
   refine W.seq ?_
   refine W.seq ?_
   obtain ⟨y3, hy4, H⟩ := of_bindO H
   obtain ⟨hc5, H⟩ := of_must H
   obtain ⟨hc6, H⟩ := of_must H
   obtain ⟨hc7, H⟩ := of_must H
   obtain ⟨hc8, H⟩ := of_must H
   refine W.region env [] [⟨.bool (y3), [], 0, []⟩] rfl rfl (by kernel_rfl) (.cons (fun h => h) (.cons (fun h => h) (.cons hc5 (.cons (fun h => h) (.cons hc6 (.cons (fun h => h) (.cons (fun h => h) (.cons (fun h => h) (.cons hc7 (.cons (fun h => h) (.cons (fun h => h) (.cons hc8 (.cons (fun h => h) (.cons (fun h => h) (.cons (fun h => h) (.cons (fun h => h) (.cons (fun h => h) (.cons (fun hW h => by revert hW h; first | (simp +contextual; done) | grind) (.cons (fun h => by rw [h]; rfl) .nil))))))))))))))))))) (.free (c_crew_plan__isRound p0 (p1.getD i1 default) hy4) .nil) (At.keep (ts := [0, 1, 5, 7, 10, 11, 12, 37]) (ids := []) rfl rfl ?_)
   refine At.thenC ?_
   refine W.cond rfl (fun hb9 => ?_) (fun hb9 => ?_)
   · have H := of_true H hb9
     refine W.rg env [4] [] ?_
     refine W.ret ?_
     refine At.rthen ?_
     refine At.rinb ?_
     refine At.rthen ?_
     refine At.rthen ?_
     refine At.rinb ?_
     refine At.rthen ?_
     cases H
     exact At.ret env.ty rfl rfl (fun q hq => by cases hq) (.refl _) hval
   · have H := of_false H hb9
     refine W.skip ?_
     refine At.thenC ?_
     refine W.rg env [0, 1, 5, 10, 11, 12, 38, 39, 40] [] ?_
     refine W.block ?_
     refine At.keep (ts := [0, 1, 5, 10, 11, 12, 38, 39, 40]) (ids := []) rfl rfl ?_
     refine W.len (t := 38) rfl (fun (hn10 : (p1.getD i1 default).length ≤ maxLen) => ?_)
     refine W.rangeGo H (fun i10 (s10 : Int) => [(0, .rp [roL 4 enc_Task p0.Crew.Tasks, roL 1 enc_ListRange p0.Crew.Travel, roL 3 enc_Hand p0.Crew.Hands, roL 1 enc_Int p0.next]), (1, roL 1 enc_ListInt p1), (5, .int .i64 (s10)), (10, roL 1 enc_ListInt p1), (11, .int .i64 (((p1.length : Nat) : Int))), (12, .int .i64 ((i1 : Int))), (38, roL 1 enc_Int (p1.getD i1 default)), (39, .int .i64 ((((p1.getD i1 default).length : Nat) : Int))), (40, .int .i64 ((i10 : Int)))]) (fun i10 (s10 : Int) => []) (.cons .q (.cons .q (.cons .qi (.cons .q (.cons .qi (.cons .qi (.cons .q (.cons .qi (.cons .qi .nil))))))))) .nil (fun k10 i10 s10 hle10 H1 H2 K0 hK10 => ?_)
     refine W.rg env [0, 1, 5, 10, 11, 12, 38, 39, 40, 41] [] ?_
     refine W.seq ?_
     refine W.cond rfl (fun hb11 => ?_) (fun hb11 => ?_)
     · have hi10 : i10 < (p1.getD i1 default).length := by have := of_decide_eq_true hb11; omega
       have H := H1 hi10
       refine W.skip ?_
       refine At.thenC ?_
       refine W.seq ?_
       refine W.block ?_
       refine W.sr env [] [] [0, 1, 5, 9, 10, 11, 12, 38, 39, 40] [] rfl rfl rfl (.cons (⟨by omega, by omega⟩ : 0 ≤ (i10 : Int) ∧ (i10 : Int) < (((p1.getD i1 default).length : Nat) : Int)) .nil) .nil ?_
       refine W.seq ?_
       obtain ⟨hc12, H⟩ := of_must H
       obtain ⟨hc13, H⟩ := of_must H
       refine W.sr env [] [] [0, 1, 5, 9, 10, 11, 12, 38, 39, 40, 48] [] rfl rfl rfl (.cons hc12 (.cons hc13 .nil)) .nil ?_
       refine W.cond rfl (fun hb14 => ?_) (fun hb14 => ?_)
       · have H := of_true H hb14
         refine W.rg env [4] [] ?_
         refine W.ret ?_
         refine At.rthen ?_
         refine At.rinb ?_
         refine At.rthen ?_
         refine At.rthen ?_
         refine At.rinb ?_
         refine At.rinb ?_
         refine At.rthen ?_
         refine At.rthen ?_
         refine At.rinb ?_
         refine At.rthen ?_
         cases H
         exact At.ret env.ty rfl rfl (fun q hq => by cases hq) (.refl _) hval
       · have H := of_false H hb14
         refine W.skip ?_
         refine At.thenC ?_
         obtain ⟨hc15, H⟩ := of_must H
         obtain ⟨hc16, H⟩ := of_must H
         refine W.region env [] [] rfl rfl rfl (.cons hc15 (.cons hc16 .nil)) .nil (At.keep (ts := [0, 1, 5, 10, 11, 12, 38, 39, 40]) (ids := []) rfl rfl ?_)
         refine At.inb ?_
         refine At.thenC ?_
         refine W.region env [] [] rfl rfl rfl (.cons (by unfold inI; have := hn10; (try unfold maxLen at this); omega) .nil) .nil (At.keep (ts := [0, 1, 5, 10, 11, 12, 38, 39, 40]) (ids := []) rfl rfl ?_)
         refine At.thenK (At.keep (ts := [0, 1, 5, 10, 11, 12, 38, 39, 40]) (ids := []) rfl rfl ?_)
         exact At.conv (.cons .q (.cons .q (.cons .qi (.cons .q (.cons .qi (.cons .qi (.cons .q (.cons .qi (.cons .qi .nil))))))))) .nil (hK10 hi10 (((s10 : Int).toNat ||| (((1 : Int) * 2 ^ (((p1.getD i1 default).getD i10 default) : Int).toNat) : Int).toNat : Nat) : Int) H)
     · have H := H2 (by have := of_decide_eq_false hb11; omega)
       refine W.exit ?_
       refine At.xthen ?_
       refine At.xthen ?_
       refine At.xhere ?_
       refine At.inb ?_
       refine At.thenC ?_
       refine W.region env [] [] rfl rfl rfl (.cons (by unfold inI; have := hn1; (try unfold maxLen at this); omega) .nil) .nil (At.keep (ts := [0, 1, 5, 10, 11, 12]) (ids := []) rfl rfl ?_)
       refine At.thenK (At.keep (ts := [0, 1, 5, 10, 11, 12]) (ids := []) rfl rfl ?_)
       exact At.conv (.cons .q (.cons .q (.cons .qi (.cons .q (.cons .qi (.cons .qi .nil)))))) .nil (hK1 hi1 s10 H)
 · have H := H2 (by have := of_decide_eq_false hb2; omega)
   refine W.exit ?_
   refine At.xthen ?_
   refine At.xthen ?_
   refine At.xhere ?_
   refine At.thenC ?_
   obtain ⟨hc17, H⟩ := of_must H
   obtain ⟨hc18, H⟩ := of_must H
   refine W.sr env [] [] [4] [] rfl rfl rfl (.cons hc17 (.cons hc18 .nil)) .nil ?_
   refine W.ret ?_
   cases H
   exact At.ret env.ty rfl rfl (fun q hq => by cases hq) (.refl _) hval
theorem c_crew_asked (p0 : Crew) (p1 : (List (List Int))) {r : ((Option crew_plan) × Int)} (H : crew_asked p0 p1 = some r) : Ctr Tryz.prog 40 [.agg [roL 4 enc_Task p0.Tasks, roL 1 enc_ListRange p0.Travel, roL 3 enc_Hand p0.Hands], roL 1 enc_ListInt p1] (.tup [.po r.1.isSome [roL 4 enc_Task ((r.1.getD default).Crew.Tasks), roL 1 enc_ListRange ((r.1.getD default).Crew.Travel), roL 3 enc_Hand ((r.1.getD default).Crew.Hands), roL 1 enc_Int ((r.1.getD default).next)], .int .i64 (r.2)]) := by
 unfold crew_asked at H
 refine Ctr.of_body (N := 20) Tryz.func40 (by kernel_rfl) (c := _) rfl Tryz.ntmps40 rfl (fun w0 h0 hval => ?_)
 refine W.rg env [1, 2] [2] ?_
 refine W.seq ?_
 refine W.seq ?_
 obtain ⟨y1, hy2, H⟩ := of_bindO H
 refine W.region env [] [⟨.int .i64 (y1), [], 0, []⟩] rfl rfl rfl .nil (.free (c_crew_Check p0 hy2) .nil) (At.keep (ts := [1, 2, 6]) (ids := [2]) rfl rfl ?_)
 refine At.thenC ?_
 refine W.rg env [1, 2, 6, 11] [2] ?_
 refine W.cond rfl (fun hb3 => ?_) (fun hb3 => ?_)
 · have H := of_true H hb3
   refine W.rg env [4, 5] [] ?_
   refine W.ret ?_
   refine At.rthen ?_
   cases H
   exact At.ret env.ty rfl rfl (fun q hq => by cases hq) (Sim.tupL (.cons (Sim.po_nil rfl) (.cons (.refl _) .nil))) hval
 · have H := of_false H hb3
   refine W.skip ?_
   refine At.thenC ?_
   refine W.seq ?_
   obtain ⟨y4, hy5, H⟩ := of_bindO H
   refine W.region env [] [⟨.po y4.isSome [roL 4 enc_Task ((y4.getD default).Crew.Tasks), roL 1 enc_ListRange ((y4.getD default).Crew.Travel), roL 3 enc_Hand ((y4.getD default).Crew.Hands), roL 1 enc_Int ((y4.getD default).next)], [], 0, []⟩] rfl rfl rfl .nil (.free (c_crew_newPlan p0 (fun x0 => some (crew_most x0)) 35 [] [] (fun x0 r h => by cases h; exact c_crew_most x0) hy5) .nil) (At.keep (ts := [1, 7]) (ids := []) rfl rfl ?_)
   refine At.thenC ?_
   refine W.seq ?_
   refine W.seq ?_
   obtain ⟨hc6, H⟩ := of_must H
   obtain ⟨y7, hy8, H⟩ := of_bindO H
   refine W.region env [] [⟨.bool (y7), [], 0, []⟩] rfl rfl rfl .nil (.free (Ctr.sim (.cons (Sim.rp_po hc6) (.cons (.refl _) .nil)) (c_crew_plan__areRounds (y4.getD default) p1 hy8)) .nil) (At.keep (ts := [7, 18]) (ids := []) rfl rfl ?_)
   refine At.thenC ?_
   refine W.cond rfl (fun hb9 => ?_) (fun hb9 => ?_)
   · have H := of_true H hb9
     refine W.rg env [4, 5] [] ?_
     refine W.ret ?_
     refine At.rthen ?_
     cases H
     exact At.ret env.ty rfl rfl (fun q hq => by cases hq) (Sim.tupL (.cons (Sim.po_nil rfl) (.cons (.refl _) .nil))) hval
   · have H := of_false H hb9
     refine W.skip ?_
     refine At.thenC ?_
     refine W.rg env [4, 5] [] ?_
     refine W.ret ?_
     cases H
     exact At.ret env.ty rfl rfl (fun q hq => by cases hq) (.refl _) hval
theorem c_crew_shift__free (p0 : crew_shift) {r : (List Int)} (H : crew_shift__free p0 = some r) : Ctr Tryz.prog 41 [.agg [.po p0.plan.isSome [roL 4 enc_Task ((p0.plan.getD default).Crew.Tasks), roL 1 enc_ListRange ((p0.plan.getD default).Crew.Travel), roL 3 enc_Hand ((p0.plan.getD default).Crew.Hands), roL 1 enc_Int ((p0.plan.getD default).next)], roL 1 enc_ListInt p0.rounds]] (roL 1 enc_Int r) := by
 unfold crew_shift__free at H
 refine Ctr.of_body (N := 19) Tryz.func41 (by kernel_rfl) (c := _) rfl Tryz.ntmps41 rfl (fun w0 h0 hval => ?_)
 refine W.rg env [1] [1] ?_
 refine W.seq ?_
 obtain ⟨hc1, H⟩ := of_must H
 refine W.region env [] [] rfl rfl rfl (.cons hc1 .nil) .nil (At.keep (ts := [3]) (ids := [8]) rfl rfl ?_)
 refine At.convM (.cons (y := bufL 3 1 enc_Int (List.replicate (((p0.rounds.length : Nat) : Int)).toNat (0 : Int))) (BSim.seg (Seg.made (f := enc_Int) 0 rfl)) .nil) ?_
 refine At.thenC ?_
 refine W.seq ?_
 refine W.sr env [] [] [3, 10, 11] [8] rfl rfl rfl (.cons (by first | rfl | (simp; done) | omega | (simp; omega)) .nil) .nil ?_
 refine W.block ?_
 refine At.keep (ts := [3, 10, 11]) (ids := [8]) rfl rfl ?_
 obtain ⟨hn2, H⟩ := of_must H
 refine W.rangeGo H (fun i2 (s2 : (List Int)) => [(3, .buf 8 (s2).length), (10, .int .i64 ((((List.replicate (((p0.rounds.length : Nat) : Int)).toNat (0 : Int)).length : Nat) : Int))), (11, .int .i64 ((i2 : Int)))]) (fun i2 (s2 : (List Int)) => [(8, bufL 3 1 enc_Int s2)]) (.cons .qb (.cons .qi (.cons .qi .nil))) (.cons .q .nil) (fun k2 i2 s2 hle2 H1 H2 K0 hK2 => ?_)
 refine W.rg env [3, 10, 11, 12] [8] ?_
 refine W.seq ?_
 refine W.cond rfl (fun hb3 => ?_) (fun hb3 => ?_)
 · have hi2 : i2 < (List.replicate (((p0.rounds.length : Nat) : Int)).toNat (0 : Int)).length := by have := of_decide_eq_true hb3; omega
   have H := H1 hi2
   refine W.skip ?_
   refine At.thenC ?_
   refine W.seq ?_
   refine W.block ?_
   refine W.rg env [3, 4, 10, 11] [8] ?_
   obtain ⟨hc4, H⟩ := of_must H
   refine W.region env [] [] rfl rfl rfl (.cons (⟨by first | rfl | (simp; done) | omega | (simp; omega), hc4⟩) (.cons (⟨by first | rfl | (simp; done) | omega | (simp; omega), (by have := hc4; first | omega | (simp only [List.length_set]; omega) | (simp only [Int.toNat_natCast] at *; omega) | (simp at this ⊢; omega))⟩) .nil)) .nil (At.keep (ts := [3, 10, 11]) (ids := [8]) rfl rfl ?_)
   refine At.convM (.cons (y := bufL 3 1 enc_Int (s2.set i2 (-1))) (BSim.seg (Seg.set (Seg.refl enc_Int _) (-1) rfl)) .nil) ?_
   refine At.inb ?_
   refine At.thenC ?_
   refine W.region env [] [] rfl rfl rfl (.cons (by unfold inI; have := hn2; (try unfold maxLen at this); omega) .nil) .nil (At.keep (ts := [3, 10, 11]) (ids := [8]) rfl rfl ?_)
   refine At.thenK (At.keep (ts := [3, 10, 11]) (ids := [8]) rfl rfl ?_)
   exact At.conv (.cons .qb (.cons .qi (.cons .qi .nil))) (.cons .q .nil) (hK2 hi2 (s2.set i2 (-1)) H)
 · have H := H2 (by have := of_decide_eq_false hb3; omega)
   refine W.exit ?_
   refine At.xthen ?_
   refine At.xthen ?_
   refine At.xhere ?_
   refine At.thenC ?_
   refine W.rg env [2] [8] ?_
   refine W.ret ?_
   cases H
   exact At.ret env.ty rfl rfl (fun q hq => by cases hq; exact (by first | rfl | (simp; done) | omega | (simp; omega))) (.refl _) hval
theorem c_crew_shift__indices (p0 : crew_shift) {r : (List Int)} (H : crew_shift__indices p0 = some r) : Ctr Tryz.prog 43 [.agg [.po p0.plan.isSome [roL 4 enc_Task ((p0.plan.getD default).Crew.Tasks), roL 1 enc_ListRange ((p0.plan.getD default).Crew.Travel), roL 3 enc_Hand ((p0.plan.getD default).Crew.Hands), roL 1 enc_Int ((p0.plan.getD default).next)], roL 1 enc_ListInt p0.rounds]] (roL 1 enc_Int r) := by
 unfold crew_shift__indices at H
 refine Ctr.of_body (N := 17) Tryz.func43 (by kernel_rfl) (c := _) rfl Tryz.ntmps43 rfl (fun w0 h0 hval => ?_)
 refine W.rg env [1] [1] ?_
 refine W.rg env [1, 3] [1] ?_
 refine W.seq ?_
 refine W.rg env [3, 7, 8] [] ?_
 refine W.block ?_
 refine At.nilOwn 3 503 3 1 (e := fun i => enc_Int (([] : List Int).getD i default)) rfl rfl ?_
 refine At.keep (ts := [3, 7, 8]) (ids := [503]) rfl rfl ?_
 obtain ⟨hn1, H⟩ := of_must H
 refine W.rangeGo H (fun i1 (s1 : (List Int)) => [(3, .buf 503 (s1).length), (7, .int .i64 (((p0.rounds.length : Nat) : Int))), (8, .int .i64 ((i1 : Int)))]) (fun i1 (s1 : (List Int)) => [(503, bufL 3 1 enc_Int s1)]) (.cons .qb (.cons .qi (.cons .qi .nil))) (.cons .q .nil) (fun k1 i1 s1 hle1 H1 H2 K0 hK1 => ?_)
 refine W.rg env [3, 7, 8, 9] [503] ?_
 refine W.seq ?_
 refine W.cond rfl (fun hb2 => ?_) (fun hb2 => ?_)
 · have hi1 : i1 < p0.rounds.length := by have := of_decide_eq_true hb2; omega
   have H := H1 hi1
   refine W.skip ?_
   refine At.thenC ?_
   refine W.seq ?_
   refine W.block ?_
   refine W.rg env [3, 4, 7, 8] [503] ?_
   obtain ⟨hc3, H⟩ := of_must H
   refine W.region env [] [] rfl rfl rfl (.cons (⟨by first | rfl | (simp; done) | omega | (simp; omega), by have := hc3; first | simpa using this | (unfold room at this ⊢; simp at this ⊢; omega)⟩) .nil) .nil (At.keep (ts := [3, 7, 8]) (ids := [503]) rfl rfl ?_)
   refine At.convM (.cons (y := bufL 3 1 enc_Int (s1 ++ ([(i1 : Int)] : List Int))) (BSim.seg (Seg.push (Seg.refl enc_Int _) (Seg.lit (f := enc_Int) (sz := 1) ([(i1 : Int)] : List Int) rfl rfl (fun _ => rfl)))) .nil) ?_
   refine At.inb ?_
   refine At.thenC ?_
   refine W.region env [] [] rfl rfl rfl (.cons (by unfold inI; have := hn1; (try unfold maxLen at this); omega) .nil) .nil (At.keep (ts := [3, 7, 8]) (ids := [503]) rfl rfl ?_)
   refine At.thenK (At.keep (ts := [3, 7, 8]) (ids := [503]) rfl rfl ?_)
   exact At.conv (.cons .qb (.cons .qi (.cons .qi .nil))) (.cons .q .nil) (hK1 hi1 (s1 ++ ([(i1 : Int)] : List Int)) H)
 · have H := H2 (by have := of_decide_eq_false hb2; omega)
   refine W.exit ?_
   refine At.xthen ?_
   refine At.xthen ?_
   refine At.xhere ?_
   refine At.thenC ?_
   refine W.rg env [2] [503] ?_
   refine W.ret ?_
   cases H
   exact At.ret env.ty rfl rfl (fun q hq => by cases hq; exact (by first | rfl | (simp; done) | omega | (simp; omega))) (.refl _) hval
theorem cl_crew_shift__all_1_l (fuel : Nat) : ∀ (n : Nat) (p0 : Int) (c0 : crew_shift) (c1 : Int) (c2 : (List Int)) (c3 : (List Int)) {r : (Bool × Int × (List Int))} (H : crew_shift__all_1_l fuel n p0 c0 c1 c2 c3 = some r), CtrO Tryz.prog 84 [.int .i64 (p0), .lp 90000 0, .lp 90001 0, .lp 90002 0, .lp 90004 0, .lp 90005 0] [(90000, .cells [.po c0.plan.isSome [roL 4 enc_Task ((c0.plan.getD default).Crew.Tasks), roL 1 enc_ListRange ((c0.plan.getD default).Crew.Travel), roL 3 enc_Hand ((c0.plan.getD default).Crew.Hands), roL 1 enc_Int ((c0.plan.getD default).next)], roL 1 enc_ListInt c0.rounds]), (90001, .cells [.int .i64 (c1)]), (90002, .cells [.buf 90003 (c2).length]), (90003, bufL 3 1 enc_Int c2), (90004, .cells [roL 1 enc_Int c3]), (90005, .cells [.fn (.func 84) [] [.lp 90000 0, .lp 90001 0, .lp 90002 0, .lp 90004 0, .lp 90005 0]])] (.bool (r.1)) [(90000, .cells [.po c0.plan.isSome [roL 4 enc_Task ((c0.plan.getD default).Crew.Tasks), roL 1 enc_ListRange ((c0.plan.getD default).Crew.Travel), roL 3 enc_Hand ((c0.plan.getD default).Crew.Hands), roL 1 enc_Int ((c0.plan.getD default).next)], roL 1 enc_ListInt c0.rounds]), (90001, .cells [.int .i64 (r.2.1)]), (90002, .cells [.buf 90003 (r.2.2).length]), (90003, bufL 3 1 enc_Int r.2.2), (90004, .cells [roL 1 enc_Int c3]), (90005, .cells [.fn (.func 84) [] [.lp 90000 0, .lp 90001 0, .lp 90002 0, .lp 90004 0, .lp 90005 0]])] := by
 intro n; induction n with
 | zero => intro p0 c0 c1 c2 c3 r H; cases H
 | succ n ih =>
   intro p0 c0 c1 c2 c3 r H
   have H : crew_shift__all_1_l_F fuel (crew_shift__all_1_l fuel n) p0 c0 c1 c2 c3 = some r := H
   unfold crew_shift__all_1_l_F at H
   refine CtrL.of_body (N := 81) Tryz.func84 (by kernel_rfl) (c := _) rfl Tryz.ntmps84 rfl rfl (fun w0 h0 ρb hval hdom hent => ?_)
   refine W.rg env [0, 1, 2, 3, 4, 5] [90000, 90001, 90002, 90003, 90004, 90005] ?_
   refine W.seq ?_
   obtain ⟨hc1, H⟩ := of_must H
   refine W.sr env [] [] [0, 1, 2, 3, 4, 5, 15, 16, 17] [90000, 90001, 90002, 90003, 90004, 90005] rfl rfl rfl (.cons hc1 .nil) .nil ?_
   refine W.block ?_
   refine At.keep (ts := [0, 1, 2, 3, 4, 5, 15, 16, 17]) (ids := [90000, 90001, 90002, 90003, 90004, 90005]) rfl rfl ?_
   refine W.len (t := 15) rfl (fun (hn2 : ((c0.plan.getD default).Crew.Hands).length ≤ maxLen) => ?_)
   refine W.rangeGo H (fun i2 (s2 : (List Int) × Int) => [(0, .int .i64 (p0)), (1, .lp 90000 0), (2, .lp 90001 0), (3, .lp 90002 0), (4, .lp 90004 0), (5, .lp 90005 0), (15, roL 3 enc_Hand ((c0.plan.getD default).Crew.Hands)), (16, .int .i64 (((((c0.plan.getD default).Crew.Hands).length : Nat) : Int))), (17, .int .i64 ((i2 : Int)))]) (fun i2 (s2 : (List Int) × Int) => [(90000, .cells [.po c0.plan.isSome [roL 4 enc_Task ((c0.plan.getD default).Crew.Tasks), roL 1 enc_ListRange ((c0.plan.getD default).Crew.Travel), roL 3 enc_Hand ((c0.plan.getD default).Crew.Hands), roL 1 enc_Int ((c0.plan.getD default).next)], roL 1 enc_ListInt c0.rounds]), (90001, .cells [.int .i64 (s2.2)]), (90002, .cells [.buf 90003 (s2.1).length]), (90003, bufL 3 1 enc_Int s2.1), (90004, .cells [roL 1 enc_Int c3]), (90005, .cells [.fn (.func 84) [] [.lp 90000 0, .lp 90001 0, .lp 90002 0, .lp 90004 0, .lp 90005 0]])]) (.cons .qi (.cons .q (.cons .q (.cons .q (.cons .q (.cons .q (.cons .q (.cons .qi (.cons .qi .nil))))))))) (.cons .q (.cons .q (.cons (BSim.cells (.cons .qc .nil)) (.cons .q (.cons .q (.cons .q .nil)))))) (fun k2 i2 s2 hle2 H1 H2 K0 hK2 => ?_)
   refine W.rg env [0, 1, 2, 3, 4, 5, 15, 16, 17, 18] [90000, 90001, 90002, 90003, 90004, 90005] ?_
   refine W.seq ?_
   refine W.cond rfl (fun hb3 => ?_) (fun hb3 => ?_)
   · have hi2 : i2 < ((c0.plan.getD default).Crew.Hands).length := by have := of_decide_eq_true hb3; omega
     have H := H1 hi2
     refine W.skip ?_
     refine At.thenC ?_
     refine W.seq ?_
     refine W.joinC H (fun (s4 : Int × (List Int)) => [(0, .int .i64 (p0)), (1, .lp 90000 0), (2, .lp 90001 0), (3, .lp 90002 0), (4, .lp 90004 0), (5, .lp 90005 0), (15, roL 3 enc_Hand ((c0.plan.getD default).Crew.Hands)), (16, .int .i64 (((((c0.plan.getD default).Crew.Hands).length : Nat) : Int))), (17, .int .i64 ((i2 : Int)))]) (fun (s4 : Int × (List Int)) => [(90000, .cells [.po c0.plan.isSome [roL 4 enc_Task ((c0.plan.getD default).Crew.Tasks), roL 1 enc_ListRange ((c0.plan.getD default).Crew.Travel), roL 3 enc_Hand ((c0.plan.getD default).Crew.Hands), roL 1 enc_Int ((c0.plan.getD default).next)], roL 1 enc_ListInt c0.rounds]), (90001, .cells [.int .i64 (s4.1)]), (90002, .cells [.buf 90003 (s4.2).length]), (90003, bufL 3 1 enc_Int s4.2), (90004, .cells [roL 1 enc_Int c3]), (90005, .cells [.fn (.func 84) [] [.lp 90000 0, .lp 90001 0, .lp 90002 0, .lp 90004 0, .lp 90005 0]])]) (fun s4 H => ?_) (fun k4 H hK4 => ?_)
     · refine W.region env [] [] rfl rfl rfl (.cons (by unfold inI; have := hn2; (try unfold maxLen at this); omega) .nil) .nil (At.keep (ts := [0, 1, 2, 3, 4, 5, 15, 16, 17]) (ids := [90000, 90001, 90002, 90003, 90004, 90005]) rfl rfl ?_)
       refine At.thenK (At.keep (ts := [0, 1, 2, 3, 4, 5, 15, 16, 17]) (ids := [90000, 90001, 90002, 90003, 90004, 90005]) rfl rfl ?_)
       exact At.conv (.cons .qi (.cons .q (.cons .q (.cons .q (.cons .q (.cons .q (.cons .q (.cons .qi (.cons .qi .nil))))))))) (.cons .q (.cons .q (.cons (BSim.cells (.cons .qc .nil)) (.cons .q (.cons .q (.cons .q .nil)))))) (hK2 hi2 (s4.2, s4.1) H)
     · refine W.block ?_
       refine W.sr env [] [] [0, 1, 2, 3, 4, 5, 8, 9, 15, 16, 17] [9, 90000, 90001, 90002, 90003, 90004, 90005] rfl rfl rfl (.cons (⟨by omega, by omega⟩ : 0 ≤ (i2 : Int) ∧ (i2 : Int) < ((((c0.plan.getD default).Crew.Hands).length : Nat) : Int)) .nil) .nil ?_
       refine W.seq ?_
       refine W.seq ?_
       obtain ⟨hc5, H⟩ := of_must H
       obtain ⟨hc6, H⟩ := of_must H
       obtain ⟨hc7, H⟩ := of_must H
       obtain ⟨hc8, H⟩ := of_must H
       obtain ⟨y9, hy10, H⟩ := of_bindO H
       obtain ⟨hc11, H⟩ := of_must H
       obtain ⟨hc12, H⟩ := of_must H
       obtain ⟨hc13, H⟩ := of_must H
       obtain ⟨hc14, H⟩ := of_must H
       refine W.region env [] [⟨.bool (y9), [], 0, []⟩] rfl rfl (by kernel_rfl) (.cons hc5 (.cons hc6 (.cons (fun h => h) (.cons (fun h => h) (.cons hc7 (.cons (fun h => h) (.cons (fun h => h) (.cons (fun h => h) (.cons (fun h => h) (.cons (fun h => h) (.cons (fun h => h) (.cons (fun h => h) (.cons (fun h => by rw [h]; rfl) (.cons (fun hW => ⟨by first | rfl | (simp; done) | omega | (simp; omega), hc11 hW⟩) (.cons (fun h => h) (.cons (fun h => h) (.cons (fun hW => (⟨by first | rfl | (simp; done) | omega | (simp; omega), (by have := hc11 hW; first | omega | (simp only [List.length_set]; omega) | (simp only [Int.toNat_natCast] at *; omega) | (simp at this ⊢; omega))⟩)) (.cons (fun h => h) (.cons (fun h => h) (.cons (fun h => h) (.cons (fun hW => ⟨by first | rfl | (simp; done) | omega | (simp; omega), hc12 hW⟩) (.cons (fun h => h) (.cons (fun h => h) (.cons (fun hW => (⟨by first | rfl | (simp; done) | omega | (simp; omega), (by have := hc12 hW; first | omega | (simp only [List.length_set]; omega) | (simp only [Int.toNat_natCast] at *; omega) | (simp at this ⊢; omega))⟩)) (.cons (fun h => h) (.cons hc13 (.cons (fun h => h) (.cons hc14 (.cons (fun h => h) (.cons (fun h => h) (.cons (fun h => h) (.cons (fun h => h) (.cons (fun h => h) (.cons (fun hW h => by revert hW h; first | (simp +contextual; done) | grind) (.cons (fun h => by rw [h]; rfl) .nil))))))))))))))))))))))))))))))))))) (.on (fun hW => Ctr.sim (.cons (Sim.rp_po (hc8 hW)) (.cons (.refl _) (.cons (.refl _) .nil))) (c_crew_plan__able (c0.plan.getD default) (((c0.plan.getD default).Crew.Hands).getD i2 default) (c0.rounds.getD (p0).toNat default) (of_true hy10 hW))) .nil) (At.keep (ts := [0, 1, 2, 3, 4, 5, 8, 15, 16, 17, 56]) (ids := [90000, 90001, 90002, 90003, 90004, 90005]) rfl rfl ?_)
       refine At.thenC ?_
       refine W.cond rfl (fun hb15 => ?_) (fun hb15 => ?_)
       · have H := of_true H hb15
         refine W.exit ?_
         refine At.xthen ?_
         refine At.xhere ?_
         refine At.thenK (At.keep (ts := [0, 1, 2, 3, 4, 5, 15, 16, 17]) (ids := [90000, 90001, 90002, 90003, 90004, 90005]) rfl rfl ?_)
         exact At.conv (.cons .qi (.cons .q (.cons .q (.cons .q (.cons .q (.cons .q (.cons .q (.cons .qi (.cons .qi .nil))))))))) (.cons .q (.cons .q (.cons (BSim.cells (.cons .qc .nil)) (.cons .q (.cons .q (.cons .q .nil)))))) (hK4 (s2.2, s2.1) H)
       · have H := of_false H hb15
         refine W.skip ?_
         refine At.thenC ?_
         obtain ⟨hc16, H⟩ := of_must H
         obtain ⟨hc17, H⟩ := of_must H
         refine W.sr env [] [] [0, 1, 2, 3, 4, 5, 8, 15, 16, 17] [90000, 90001, 90002, 90003, 90004, 90005] rfl rfl (by first | rfl | kernel_rfl) (.cons hc16 (.cons hc17 .nil)) .nil ?_
         refine W.seq ?_
         obtain ⟨hc18, H⟩ := of_must H
         obtain ⟨hc19, H⟩ := of_must H
         obtain ⟨hc20, H⟩ := of_must H
         obtain ⟨y21, hy22, H⟩ := of_bindO H
         obtain ⟨hc23, H⟩ := of_must H
         refine W.region env [] [⟨.bool (y21.1), [(90000, .cells [.po c0.plan.isSome [roL 4 enc_Task ((c0.plan.getD default).Crew.Tasks), roL 1 enc_ListRange ((c0.plan.getD default).Crew.Travel), roL 3 enc_Hand ((c0.plan.getD default).Crew.Hands), roL 1 enc_Int ((c0.plan.getD default).next)], roL 1 enc_ListInt c0.rounds]), (90001, .cells [.int .i64 (y21.2.1)]), (90002, .cells [.buf 90003 (y21.2.2).length]), (90003, bufL 3 1 enc_Int y21.2.2), (90004, .cells [roL 1 enc_Int c3]), (90005, .cells [.fn (.func 84) [] [.lp 90000 0, .lp 90001 0, .lp 90002 0, .lp 90004 0, .lp 90005 0]])], 0, [90000, 90001, 90002, 90003, 90004, 90005]⟩] rfl rfl (by kernel_rfl) (.cons (⟨by first | rfl | (simp; done) | omega | (simp; omega), hc18⟩) (.cons (⟨by first | rfl | (simp; done) | omega | (simp; omega), (by have := hc18; first | omega | (simp only [List.length_set]; omega) | (simp only [Int.toNat_natCast] at *; omega) | (simp at this ⊢; omega))⟩) (.cons (fun hW => ⟨by first | rfl | (simp; done) | omega | (simp; omega), hc19 hW⟩) (.cons (fun h => h) (.cons (fun h => h) (.cons (fun hW => (⟨by first | rfl | (simp; done) | omega | (simp; omega), (by have := hc19 hW; first | omega | (simp only [List.length_set]; omega) | (simp only [Int.toNat_natCast] at *; omega) | (simp at this ⊢; omega))⟩)) (.cons (fun h => h) (.cons hc20 (.cons (fun h => h) (.cons (fun hW => by obtain rfl := lend_off hy22 hW; first | exact .refl _ | exact .q) (.cons (fun hW => by obtain rfl := lend_off hy22 hW; first | exact .refl _ | exact .q) (.cons (fun hW => by obtain rfl := lend_off hy22 hW; first | exact .refl _ | exact .q) (.cons (fun hW => by obtain rfl := lend_off hy22 hW; first | exact .refl _ | exact .q) (.cons (fun hW => by obtain rfl := lend_off hy22 hW; first | exact .refl _ | exact .q) (.cons (fun hW => by obtain rfl := lend_off hy22 hW; first | exact .refl _ | exact .q) (.cons (fun h => h) (.cons (fun h => h) (.cons (fun h => by rw [h]; rfl) .nil)))))))))))))))))) (.on (fun hW => (CtrO.sim (CtrO.ren (ih ((s2.1.getD i2 default) - 1) c0 (((s2.2 : Int).toNat ||| (((1 : Int) * 2 ^ ((i2 : Int) : Int).toNat) : Int).toNat : Nat) : Int) s2.1 c3 (of_true hy22 hW)) [(90000, 90000), (90001, 90001), (90002, 90002), (90003, 90003), (90004, 90004), (90005, 90005)]) (.cons (.refl _) (.cons (.refl _) (.cons (.refl _) (.cons (.refl _) (.cons (.refl _) (.cons (.refl _) .nil)))))) (.cons (.refl _) (.cons (.refl _) (.cons (BSim.cells (.cons .qc .nil)) (.cons (.refl _) (.cons (.refl _) (.cons (.refl _) .nil)))))))) .nil) (At.keep (ts := [0, 1, 2, 3, 4, 5, 8, 15, 16, 17, 74]) (ids := [90000, 90001, 90002, 90003, 90004, 90005]) rfl rfl ?_)
         refine At.thenC ?_
         refine W.cond rfl (fun hb24 => ?_) (fun hb24 => ?_)
         · have H := of_true H hb24
           refine W.seq ?_
           obtain ⟨hc25, H⟩ := of_must H
           obtain ⟨hc26, H⟩ := of_must H
           refine W.region env [] [] rfl rfl rfl (.cons hc25 (.cons (⟨by first | rfl | (simp; done) | omega | (simp; omega), hc26⟩) (.cons (⟨by first | rfl | (simp; done) | omega | (simp; omega), (by have := hc26; first | omega | (simp only [List.length_set]; omega) | (simp only [Int.toNat_natCast] at *; omega) | (simp at this ⊢; omega))⟩) .nil))) .nil (At.keep (ts := []) (ids := [90000, 90001, 90002, 90003, 90004, 90005]) rfl rfl ?_)
           refine At.convM (.cons (.refl _) (.cons (.refl _) (.cons (.refl _) (.cons (y := bufL 3 1 enc_Int (y21.2.2.set i2 (p0 + 1))) (BSim.seg (Seg.set (Seg.refl enc_Int _) (p0 + 1) rfl)) (.cons (.refl _) (.cons (.refl _) .nil)))))) ?_
           refine At.thenC ?_
           refine W.rg env [7] [90000, 90001, 90002, 90003, 90004, 90005] ?_
           refine W.ret ?_
           refine At.rinb ?_
           refine At.rthen ?_
           refine At.rthen ?_
           refine At.rinb ?_
           refine At.rthen ?_
           cases H
           exact At.retL env.ty [90000, 90001, 90002, 90003, 90004, 90005] rfl rfl rfl rfl (.cons (.refl _) (.cons (.refl _) (.cons (BSim.cells (.cons .qc .nil)) (.cons (.refl _) (.cons (.refl _) (.cons (.refl _) .nil)))))) (.refl _) hval hdom hent rfl rfl
         · have H := of_false H hb24
           refine W.skip ?_
           refine At.inb ?_
           refine At.thenK (At.keep (ts := [0, 1, 2, 3, 4, 5, 15, 16, 17]) (ids := [90000, 90001, 90002, 90003, 90004, 90005]) rfl rfl ?_)
           exact At.conv (.cons .qi (.cons .q (.cons .q (.cons .q (.cons .q (.cons .q (.cons .q (.cons .qi (.cons .qi .nil))))))))) (.cons .q (.cons .q (.cons (BSim.cells (.cons .qc .nil)) (.cons .q (.cons .q (.cons .q .nil)))))) (hK4 (y21.2.1, y21.2.2) H)
   · have H := H2 (by have := of_decide_eq_false hb3; omega)
     refine W.exit ?_
     refine At.xthen ?_
     refine At.xthen ?_
     refine At.xhere ?_
     refine At.thenC ?_
     refine W.rg env [7] [90000, 90001, 90002, 90003, 90004, 90005] ?_
     refine W.ret ?_
     cases H
     exact At.retL env.ty [90000, 90001, 90002, 90003, 90004, 90005] rfl rfl rfl rfl (.cons (.refl _) (.cons (.refl _) (.cons (BSim.cells (.cons .qc .nil)) (.cons (.refl _) (.cons (.refl _) (.cons (.refl _) .nil)))))) (.refl _) hval hdom hent rfl rfl
theorem c_crew_shift__all (fuel : Nat) (p0 : crew_shift) (p1 : (List Int)) (p2 : (List Int)) {r : Bool} (H : crew_shift__all fuel p0 p1 p2 = some r) : Ctr Tryz.prog 42 [.agg [.po p0.plan.isSome [roL 4 enc_Task ((p0.plan.getD default).Crew.Tasks), roL 1 enc_ListRange ((p0.plan.getD default).Crew.Travel), roL 3 enc_Hand ((p0.plan.getD default).Crew.Hands), roL 1 enc_Int ((p0.plan.getD default).next)], roL 1 enc_ListInt p0.rounds], roL 1 enc_Int p1, roL 1 enc_Int p2] (.bool (r)) := by
 unfold crew_shift__all at H
 refine Ctr.of_body (N := 59) Tryz.func42 (by kernel_rfl) (c := _) rfl Tryz.ntmps42 rfl (fun w0 h0 hval => ?_)
 refine W.rg env [1, 3, 5] [3, 5] ?_
 refine W.scope ?_
 refine W.seq ?_
 obtain ⟨hc1, H⟩ := of_must H
 obtain ⟨hc2, H⟩ := of_must H
 refine W.region env [] [] rfl rfl rfl (.cons hc1 (.cons hc2 .nil)) .nil (At.keep (ts := [1, 3, 5, 7]) (ids := [3, 5, 7, 21]) rfl rfl ?_)
 refine At.convM (.cons (.refl _) (.cons (.refl _) (.cons (.refl _) (.cons (y := bufL 3 1 enc_Int (List.replicate (((((p0.plan.getD default).Crew.Hands).length : Nat) : Int)).toNat (0 : Int))) (BSim.seg (Seg.made (f := enc_Int) 0 rfl)) .nil)))) ?_
 refine At.thenC ?_
 refine W.seq ?_
 refine W.rg env [1, 3, 5, 7, 22, 23, 24] [3, 5, 7, 21] ?_
 refine W.block ?_
 refine At.keep (ts := [1, 3, 5, 7, 22, 23, 24]) (ids := [3, 5, 7, 21]) rfl rfl ?_
 refine W.len (t := 22) rfl (fun (hn3 : p1.length ≤ maxLen) => ?_)
 refine W.rangeGo H (fun i3 (s3 : (List Int)) => [(1, roL 1 enc_Int p1), (3, .lp 3 0), (5, .lp 5 0), (7, .lp 7 0), (22, roL 1 enc_Int p1), (23, .int .i64 (((p1.length : Nat) : Int))), (24, .int .i64 ((i3 : Int)))]) (fun i3 (s3 : (List Int)) => [(3, .cells [.po p0.plan.isSome [roL 4 enc_Task ((p0.plan.getD default).Crew.Tasks), roL 1 enc_ListRange ((p0.plan.getD default).Crew.Travel), roL 3 enc_Hand ((p0.plan.getD default).Crew.Hands), roL 1 enc_Int ((p0.plan.getD default).next)], roL 1 enc_ListInt p0.rounds]), (5, .cells [roL 1 enc_Int p2]), (7, .cells [.buf 21 (s3).length]), (21, bufL 3 1 enc_Int s3)]) (.cons .q (.cons .q (.cons .q (.cons .q (.cons .q (.cons .qi (.cons .qi .nil))))))) (.cons .q (.cons .q (.cons (BSim.cells (.cons .qc .nil)) (.cons .q .nil)))) (fun k3 i3 s3 hle3 H1 H2 K0 hK3 => ?_)
 refine W.rg env [1, 3, 5, 7, 22, 23, 24, 25] [3, 5, 7, 21] ?_
 refine W.seq ?_
 refine W.cond rfl (fun hb4 => ?_) (fun hb4 => ?_)
 · have hi3 : i3 < p1.length := by have := of_decide_eq_true hb4; omega
   have H := H1 hi3
   refine W.skip ?_
   refine At.thenC ?_
   refine W.seq ?_
   refine W.block ?_
   refine W.sr env [] [] [1, 3, 5, 7, 9, 22, 23, 24] [3, 5, 7, 21] rfl rfl rfl (.cons (⟨by omega, by omega⟩ : 0 ≤ (i3 : Int) ∧ (i3 : Int) < ((p1.length : Nat) : Int)) .nil) .nil ?_
   obtain ⟨hc5, H⟩ := of_must H
   refine W.sr env [] [] [1, 3, 5, 7, 9, 22, 23, 24, 32] [3, 5, 7, 21] rfl rfl rfl (.cons hc5 .nil) .nil ?_
   refine W.cond rfl (fun hb6 => ?_) (fun hb6 => ?_)
   · have H := of_true H hb6
     obtain ⟨hc7, H⟩ := of_must H
     obtain ⟨hc8, H⟩ := of_must H
     obtain ⟨hc9, H⟩ := of_must H
     refine W.region env [] [] rfl rfl (by first | rfl | kernel_rfl) (.cons hc7 (.cons hc8 (.cons (⟨by first | rfl | (simp; done) | omega | (simp; omega), hc9⟩) (.cons (⟨by first | rfl | (simp; done) | omega | (simp; omega), (by have := hc9; first | omega | (simp only [List.length_set]; omega) | (simp only [Int.toNat_natCast] at *; omega) | (simp at this ⊢; omega))⟩) .nil)))) .nil (At.keep (ts := [1, 3, 5, 7, 22, 23, 24]) (ids := [3, 5, 7, 21]) rfl rfl ?_)
     refine At.convM (.cons (.refl _) (.cons (.refl _) (.cons (.refl _) (.cons (y := bufL 3 1 enc_Int (s3.set ((p2.getD ((p1.getD i3 default)).toNat default)).toNat ((p1.getD i3 default) + 1))) (BSim.seg (Seg.set (Seg.refl enc_Int _) ((p1.getD i3 default) + 1) rfl)) .nil)))) ?_
     refine At.inb ?_
     refine At.thenC ?_
     refine W.region env [] [] rfl rfl rfl (.cons (by unfold inI; have := hn3; (try unfold maxLen at this); omega) .nil) .nil (At.keep (ts := [1, 3, 5, 7, 22, 23, 24]) (ids := [3, 5, 7, 21]) rfl rfl ?_)
     refine At.thenK (At.keep (ts := [1, 3, 5, 7, 22, 23, 24]) (ids := [3, 5, 7, 21]) rfl rfl ?_)
     exact At.conv (.cons .q (.cons .q (.cons .q (.cons .q (.cons .q (.cons .qi (.cons .qi .nil))))))) (.cons .q (.cons .q (.cons (BSim.cells (.cons .qc .nil)) (.cons .q .nil)))) (hK3 hi3 (s3.set ((p2.getD ((p1.getD i3 default)).toNat default)).toNat ((p1.getD i3 default) + 1)) H)
   · have H := of_false H hb6
     refine W.skip ?_
     refine At.inb ?_
     refine At.thenC ?_
     refine W.region env [] [] rfl rfl rfl (.cons (by unfold inI; have := hn3; (try unfold maxLen at this); omega) .nil) .nil (At.keep (ts := [1, 3, 5, 7, 22, 23, 24]) (ids := [3, 5, 7, 21]) rfl rfl ?_)
     refine At.thenK (At.keep (ts := [1, 3, 5, 7, 22, 23, 24]) (ids := [3, 5, 7, 21]) rfl rfl ?_)
     exact At.conv (.cons .q (.cons .q (.cons .q (.cons .q (.cons .q (.cons .qi (.cons .qi .nil))))))) (.cons .q (.cons .q (.cons (BSim.cells (.cons .qc .nil)) (.cons .q .nil)))) (hK3 hi3 s3 H)
 · have H := H2 (by have := of_decide_eq_false hb4; omega)
   refine W.exit ?_
   refine At.xthen ?_
   refine At.xthen ?_
   refine At.xhere ?_
   refine At.thenC ?_
   refine W.seq ?_
   refine W.label ?_
   refine At.thenC ?_
   refine W.seq ?_
   refine W.rg env [3, 5, 7, 42, 43, 44] [3, 5, 7, 21] ?_
   refine W.block ?_
   refine At.keep (ts := [3, 5, 7, 42, 43, 44]) (ids := [3, 5, 7, 21]) rfl rfl ?_
   refine W.len (t := 42) rfl (fun (hn10 : p1.length ≤ maxLen) => ?_)
   refine W.rangeGo H (fun i10 (s10 : (List Int)) => [(3, .lp 3 0), (5, .lp 5 0), (7, .lp 7 0), (42, roL 1 enc_Int p1), (43, .int .i64 (((p1.length : Nat) : Int))), (44, .int .i64 ((i10 : Int)))]) (fun i10 (s10 : (List Int)) => [(3, .cells [.po p0.plan.isSome [roL 4 enc_Task ((p0.plan.getD default).Crew.Tasks), roL 1 enc_ListRange ((p0.plan.getD default).Crew.Travel), roL 3 enc_Hand ((p0.plan.getD default).Crew.Hands), roL 1 enc_Int ((p0.plan.getD default).next)], roL 1 enc_ListInt p0.rounds]), (5, .cells [roL 1 enc_Int p2]), (7, .cells [.buf 21 (s10).length]), (21, bufL 3 1 enc_Int s10)]) (.cons .q (.cons .q (.cons .q (.cons .q (.cons .qi (.cons .qi .nil)))))) (.cons .q (.cons .q (.cons (BSim.cells (.cons .qc .nil)) (.cons .q .nil)))) (fun k10 i10 s10 hle10 H1 H2 K0 hK10 => ?_)
   refine W.rg env [3, 5, 7, 42, 43, 44, 45] [3, 5, 7, 21] ?_
   refine W.seq ?_
   refine W.cond rfl (fun hb11 => ?_) (fun hb11 => ?_)
   · have hi10 : i10 < p1.length := by have := of_decide_eq_true hb11; omega
     have H := H1 hi10
     refine W.skip ?_
     refine At.thenC ?_
     refine W.seq ?_
     refine W.joinC H (fun (s12 : (List Int)) => [(3, .lp 3 0), (5, .lp 5 0), (7, .lp 7 0), (42, roL 1 enc_Int p1), (43, .int .i64 (((p1.length : Nat) : Int))), (44, .int .i64 ((i10 : Int)))]) (fun (s12 : (List Int)) => [(3, .cells [.po p0.plan.isSome [roL 4 enc_Task ((p0.plan.getD default).Crew.Tasks), roL 1 enc_ListRange ((p0.plan.getD default).Crew.Travel), roL 3 enc_Hand ((p0.plan.getD default).Crew.Hands), roL 1 enc_Int ((p0.plan.getD default).next)], roL 1 enc_ListInt p0.rounds]), (5, .cells [roL 1 enc_Int p2]), (7, .cells [.buf 21 (s12).length]), (21, bufL 3 1 enc_Int s12)]) (fun s12 H => ?_) (fun k12 H hK12 => ?_)
     · refine W.region env [] [] rfl rfl rfl (.cons (by unfold inI; have := hn10; (try unfold maxLen at this); omega) .nil) .nil (At.keep (ts := [3, 5, 7, 42, 43, 44]) (ids := [3, 5, 7, 21]) rfl rfl ?_)
       refine At.thenK (At.keep (ts := [3, 5, 7, 42, 43, 44]) (ids := [3, 5, 7, 21]) rfl rfl ?_)
       exact At.conv (.cons .q (.cons .q (.cons .q (.cons .q (.cons .qi (.cons .qi .nil)))))) (.cons .q (.cons .q (.cons (BSim.cells (.cons .qc .nil)) (.cons .q .nil)))) (hK10 hi10 s12 H)
     · refine W.block ?_
       refine W.sr env [] [] [3, 5, 7, 11, 42, 43, 44] [3, 5, 7, 21] rfl rfl rfl (.cons (⟨by omega, by omega⟩ : 0 ≤ (i10 : Int) ∧ (i10 : Int) < ((p1.length : Nat) : Int)) .nil) .nil ?_
       refine W.seq ?_
       obtain ⟨hc13, H⟩ := of_must H
       refine W.sr env [] [] [3, 5, 7, 11, 42, 43, 44, 52] [3, 5, 7, 21] rfl rfl rfl (.cons hc13 .nil) .nil ?_
       refine W.cond rfl (fun hb14 => ?_) (fun hb14 => ?_)
       · have H := of_true H hb14
         refine W.exit ?_
         refine At.xthen ?_
         refine At.xhere ?_
         refine At.thenK (At.keep (ts := [3, 5, 7, 42, 43, 44]) (ids := [3, 5, 7, 21]) rfl rfl ?_)
         exact At.conv (.cons .q (.cons .q (.cons .q (.cons .q (.cons .qi (.cons .qi .nil)))))) (.cons .q (.cons .q (.cons (BSim.cells (.cons .qc .nil)) (.cons .q .nil)))) (hK12 s10 H)
       · have H := of_false H hb14
         refine W.skip ?_
         refine At.thenC ?_
         refine W.rg env [3, 5, 7, 11, 12, 42, 43, 44] [3, 5, 7, 12, 21] ?_
         refine W.rg env [3, 5, 7, 11, 12, 13, 42, 43, 44] [3, 5, 7, 12, 13, 21] ?_
         refine W.rg env [3, 5, 7, 11, 13, 42, 43, 44] [3, 5, 7, 12, 13, 21] ?_
         refine W.seq ?_
         obtain ⟨y15, hy16, H⟩ := of_bindO H
         obtain ⟨hc17, H⟩ := of_must H
         refine W.region env [] [⟨.bool (y15.1), [(3, .cells [.po p0.plan.isSome [roL 4 enc_Task ((p0.plan.getD default).Crew.Tasks), roL 1 enc_ListRange ((p0.plan.getD default).Crew.Travel), roL 3 enc_Hand ((p0.plan.getD default).Crew.Hands), roL 1 enc_Int ((p0.plan.getD default).next)], roL 1 enc_ListInt p0.rounds]), (12, .cells [.int .i64 (y15.2.1)]), (7, .cells [.buf 21 (y15.2.2).length]), (21, bufL 3 1 enc_Int y15.2.2), (5, .cells [roL 1 enc_Int p2]), (13, .cells [.fn (.func 84) [] [.lp 3 0, .lp 12 0, .lp 7 0, .lp 5 0, .lp 13 0]])], 0, [3, 12, 7, 21, 5, 13]⟩] rfl rfl (by kernel_rfl) .nil (.free (CtrO.sim (CtrO.ren (cl_crew_shift__all_1_l fuel fuel (p1.getD i10 default) p0 0 s10 p2 hy16) [(90000, 3), (90001, 12), (90002, 7), (90003, 21), (90004, 5), (90005, 13)]) (.cons (.refl _) (.cons (.refl _) (.cons (.refl _) (.cons (.refl _) (.cons (.refl _) (.cons (.refl _) .nil)))))) (.cons (.refl _) (.cons (.refl _) (.cons (BSim.cells (.cons .qc .nil)) (.cons (.refl _) (.cons (.refl _) (.cons (.refl _) .nil))))))) .nil) (At.keep (ts := [3, 5, 7, 42, 43, 44, 57]) (ids := [3, 5, 7, 21]) rfl rfl ?_)
         refine At.thenC ?_
         refine W.cond rfl (fun hb18 => ?_) (fun hb18 => ?_)
         · have H := of_true H hb18
           refine W.rg env [6] [] ?_
           refine W.ret ?_
           refine At.rinb ?_
           refine At.rthen ?_
           refine At.rthen ?_
           refine At.rinb ?_
           refine At.rthen ?_
           refine At.rins ?_
           cases H
           exact At.ret env.ty rfl rfl (fun q hq => by cases hq) (.refl _) hval
         · have H := of_false H hb18
           refine W.skip ?_
           refine At.inb ?_
           refine At.thenK (At.keep (ts := [3, 5, 7, 42, 43, 44]) (ids := [3, 5, 7, 21]) rfl rfl ?_)
           exact At.conv (.cons .q (.cons .q (.cons .q (.cons .q (.cons .qi (.cons .qi .nil)))))) (.cons .q (.cons .q (.cons (BSim.cells (.cons .qc .nil)) (.cons .q .nil)))) (hK12 y15.2.2 H)
   · have H := H2 (by have := of_decide_eq_false hb11; omega)
     refine W.exit ?_
     refine At.xthen ?_
     refine At.xthen ?_
     refine At.xhere ?_
     refine At.thenC ?_
     refine W.rg env [6] [] ?_
     refine W.ret ?_
     refine At.rins ?_
     cases H
     exact At.ret env.ty rfl rfl (fun q hq => by cases hq) (.refl _) hval
theorem c_slices_Index_int (p0 : (List Int)) (p1 : Int) {r : Int} (H : slices_Index_int p0 p1 = some r) : Ctr Tryz.prog 85 [roL 1 enc_Int p0, .int .i64 (p1)] (.int .i64 (r)) := by
 unfold slices_Index_int at H
 refine Ctr.of_body (N := 19) Tryz.func85 (by kernel_rfl) (c := _) rfl Tryz.ntmps85 rfl (fun w0 h0 hval => ?_)
 refine W.rg env [0, 1] [] ?_
 refine W.seq ?_
 refine W.rg env [0, 1, 7, 8] [] ?_
 refine W.block ?_
 refine At.keep (ts := [0, 1, 7, 8]) (ids := []) rfl rfl ?_
 refine W.len (t := 0) rfl (fun (hn1 : p0.length ≤ maxLen) => ?_)
 refine W.rangeGo H (fun i1 (s1 : Unit) => [(0, roL 1 enc_Int p0), (1, .int .i64 (p1)), (7, .int .i64 (((p0.length : Nat) : Int))), (8, .int .i64 ((i1 : Int)))]) (fun i1 (s1 : Unit) => []) (.cons .q (.cons .qi (.cons .qi (.cons .qi .nil)))) .nil (fun k1 i1 s1 hle1 H1 H2 K0 hK1 => ?_)
 refine W.rg env [0, 1, 7, 8, 9] [] ?_
 refine W.seq ?_
 refine W.cond rfl (fun hb2 => ?_) (fun hb2 => ?_)
 · have hi1 : i1 < p0.length := by have := of_decide_eq_true hb2; omega
   have H := H1 hi1
   refine W.skip ?_
   refine At.thenC ?_
   refine W.seq ?_
   refine W.block ?_
   refine W.rg env [0, 1, 5, 7, 8] [] ?_
   refine W.sr env [] [] [0, 1, 5, 7, 8, 16] [] rfl rfl rfl (.cons (⟨by omega, by omega⟩ : 0 ≤ (i1 : Int) ∧ (i1 : Int) < ((p0.length : Nat) : Int)) .nil) .nil ?_
   refine W.cond rfl (fun hb3 => ?_) (fun hb3 => ?_)
   · have H := of_true H hb3
     refine W.rg env [4] [] ?_
     refine W.ret ?_
     refine At.rinb ?_
     refine At.rthen ?_
     refine At.rthen ?_
     refine At.rinb ?_
     refine At.rthen ?_
     cases H
     exact At.ret env.ty rfl rfl (fun q hq => by cases hq) (.refl _) hval
   · have H := of_false H hb3
     refine W.skip ?_
     refine At.inb ?_
     refine At.thenC ?_
     refine W.region env [] [] rfl rfl rfl (.cons (by unfold inI; have := hn1; (try unfold maxLen at this); omega) .nil) .nil (At.keep (ts := [0, 1, 7, 8]) (ids := []) rfl rfl ?_)
     refine At.thenK (At.keep (ts := [0, 1, 7, 8]) (ids := []) rfl rfl ?_)
     exact At.conv (.cons .q (.cons .qi (.cons .qi (.cons .qi .nil)))) .nil (hK1 hi1 () H)
 · have H := H2 (by have := of_decide_eq_false hb2; omega)
   refine W.exit ?_
   refine At.xthen ?_
   refine At.xthen ?_
   refine At.xhere ?_
   refine At.thenC ?_
   refine W.rg env [4] [] ?_
   refine W.ret ?_
   cases H
   exact At.ret env.ty rfl rfl (fun q hq => by cases hq) (.refl _) hval
theorem c_slices_Contains_int (p0 : (List Int)) (p1 : Int) {r : Bool} (H : slices_Contains_int p0 p1 = some r) : Ctr Tryz.prog 44 [roL 1 enc_Int p0, .int .i64 (p1)] (.bool (r)) := by
 unfold slices_Contains_int at H
 refine Ctr.of_body (N := 9) Tryz.func44 (by kernel_rfl) (c := _) rfl Tryz.ntmps44 rfl (fun w0 h0 hval => ?_)
 refine W.rg env [0, 1] [] ?_
 refine W.seq ?_
 obtain ⟨y1, hy2, H⟩ := of_bindO H
 refine W.region env [] [⟨.int .i64 (y1), [], 0, []⟩] rfl rfl rfl .nil (.free (c_slices_Index_int p0 p1 hy2) .nil) (At.keep (ts := [4]) (ids := []) rfl rfl ?_)
 refine At.thenC ?_
 refine W.ret ?_
 cases H
 exact At.ret env.ty rfl rfl (fun q hq => by cases hq) (.refl _) hval
theorem co_crew_shift__free (p0 : crew_shift) {r : (List Int)} (H : crew_shift__free p0 = some r) : CtrO Tryz.prog 41 [.agg [.po p0.plan.isSome [roL 4 enc_Task ((p0.plan.getD default).Crew.Tasks), roL 1 enc_ListRange ((p0.plan.getD default).Crew.Travel), roL 3 enc_Hand ((p0.plan.getD default).Crew.Hands), roL 1 enc_Int ((p0.plan.getD default).next)], roL 1 enc_ListInt p0.rounds]] [] (.buf 900 r.length) [(900, bufL 3 1 enc_Int r)] := by
 unfold crew_shift__free at H
 refine CtrO.of_body (N := 19) Tryz.func41 (by kernel_rfl) (c := _) rfl Tryz.ntmps41 rfl (fun w0 h0 ρb hval hdom => ?_)
 refine W.rg env [1] [1] ?_
 refine W.seq ?_
 obtain ⟨hc1, H⟩ := of_must H
 refine W.region env [] [] rfl rfl rfl (.cons hc1 .nil) .nil (At.keep (ts := [3]) (ids := [8]) rfl rfl ?_)
 refine At.convM (.cons (y := bufL 3 1 enc_Int (List.replicate (((p0.rounds.length : Nat) : Int)).toNat (0 : Int))) (BSim.seg (Seg.made (f := enc_Int) 0 rfl)) .nil) ?_
 refine At.thenC ?_
 refine W.seq ?_
 refine W.sr env [] [] [3, 10, 11] [8] rfl rfl rfl (.cons (by first | rfl | (simp; done) | omega | (simp; omega)) .nil) .nil ?_
 refine W.block ?_
 refine At.keep (ts := [3, 10, 11]) (ids := [8]) rfl rfl ?_
 obtain ⟨hn2, H⟩ := of_must H
 refine W.rangeGo H (fun i2 (s2 : (List Int)) => [(3, .buf 8 (s2).length), (10, .int .i64 ((((List.replicate (((p0.rounds.length : Nat) : Int)).toNat (0 : Int)).length : Nat) : Int))), (11, .int .i64 ((i2 : Int)))]) (fun i2 (s2 : (List Int)) => [(8, bufL 3 1 enc_Int s2)]) (.cons .qb (.cons .qi (.cons .qi .nil))) (.cons .q .nil) (fun k2 i2 s2 hle2 H1 H2 K0 hK2 => ?_)
 refine W.rg env [3, 10, 11, 12] [8] ?_
 refine W.seq ?_
 refine W.cond rfl (fun hb3 => ?_) (fun hb3 => ?_)
 · have hi2 : i2 < (List.replicate (((p0.rounds.length : Nat) : Int)).toNat (0 : Int)).length := by have := of_decide_eq_true hb3; omega
   have H := H1 hi2
   refine W.skip ?_
   refine At.thenC ?_
   refine W.seq ?_
   refine W.block ?_
   refine W.rg env [3, 4, 10, 11] [8] ?_
   obtain ⟨hc4, H⟩ := of_must H
   refine W.region env [] [] rfl rfl rfl (.cons (⟨by first | rfl | (simp; done) | omega | (simp; omega), hc4⟩) (.cons (⟨by first | rfl | (simp; done) | omega | (simp; omega), (by have := hc4; first | omega | (simp only [List.length_set]; omega) | (simp only [Int.toNat_natCast] at *; omega) | (simp at this ⊢; omega))⟩) .nil)) .nil (At.keep (ts := [3, 10, 11]) (ids := [8]) rfl rfl ?_)
   refine At.convM (.cons (y := bufL 3 1 enc_Int (s2.set i2 (-1))) (BSim.seg (Seg.set (Seg.refl enc_Int _) (-1) rfl)) .nil) ?_
   refine At.inb ?_
   refine At.thenC ?_
   refine W.region env [] [] rfl rfl rfl (.cons (by unfold inI; have := hn2; (try unfold maxLen at this); omega) .nil) .nil (At.keep (ts := [3, 10, 11]) (ids := [8]) rfl rfl ?_)
   refine At.thenK (At.keep (ts := [3, 10, 11]) (ids := [8]) rfl rfl ?_)
   exact At.conv (.cons .qb (.cons .qi (.cons .qi .nil))) (.cons .q .nil) (hK2 hi2 (s2.set i2 (-1)) H)
 · have H := H2 (by have := of_decide_eq_false hb3; omega)
   refine W.exit ?_
   refine At.xthen ?_
   refine At.xthen ?_
   refine At.xhere ?_
   refine At.thenC ?_
   refine W.rg env [2] [8] ?_
   refine W.ret ?_
   cases H
   exact At.retK env.ty [8] 892 rfl rfl rfl rfl (.cons (.refl _) .nil) (.of_eq (by refine bufEq ?_; first | (simp [copyAt]; done) | omega | (simp [copyAt]; omega) | rfl)) hval hdom rfl
theorem c_crew_Assign (fuel : Nat) (p0 : Crew) (p1 : (List (List Int))) {r : ((List Int) × Int)} (H : crew_Assign fuel p0 p1 = some r) : Ctr Tryz.prog 7 [.agg [roL 4 enc_Task p0.Tasks, roL 1 enc_ListRange p0.Travel, roL 3 enc_Hand p0.Hands], roL 1 enc_ListInt p1] (.tup [roL 1 enc_Int r.1, .int .i64 (r.2)]) := by
 unfold crew_Assign at H
 refine Ctr.of_body (N := 87) Tryz.func7 (by kernel_rfl) (c := _) rfl Tryz.ntmps7 rfl (fun w0 h0 hval => ?_)
 refine W.rg env [1, 2] [2] ?_
 refine W.seq ?_
 obtain ⟨y1, hy2, H⟩ := of_bindO H
 refine W.region env [] [⟨.tup [.po y1.1.isSome [roL 4 enc_Task ((y1.1.getD default).Crew.Tasks), roL 1 enc_ListRange ((y1.1.getD default).Crew.Travel), roL 3 enc_Hand ((y1.1.getD default).Crew.Hands), roL 1 enc_Int ((y1.1.getD default).next)], .int .i64 (y1.2)], [], 0, []⟩] rfl rfl rfl .nil (.free (c_crew_asked p0 p1 hy2) .nil) (At.keep (ts := [1, 2, 6, 7]) (ids := [2]) rfl rfl ?_)
 refine At.thenC ?_
 refine W.seq ?_
 refine W.rg env [1, 2, 6, 7, 21] [2] ?_
 refine W.cond rfl (fun hb3 => ?_) (fun hb3 => ?_)
 · have H := of_true H hb3
   refine W.rg env [4, 5] [] ?_
   refine W.ret ?_
   refine At.rthen ?_
   cases H
   exact At.ret env.ty rfl rfl (fun q hq => by cases hq) (Sim.tupL (.cons (Sim.nil _ _) (.cons (.refl _) .nil))) hval
 · have H := of_false H hb3
   refine W.skip ?_
   refine At.thenC ?_
   refine W.rg env [1, 2, 8] [2, 8] ?_
   refine W.seq ?_
   obtain ⟨y4, hy5, H⟩ := of_bindO H
   refine W.region env [] [⟨.buf 900 y4.length, [(900, bufL 3 1 enc_Int y4)], 28000, []⟩] rfl rfl (by kernel_rfl) .nil (.free ((Ctr.ofO (co_crew_shift__free (⟨y1.1, p1⟩ : crew_shift) hy5))) .nil) (At.keep (ts := [1, 2, 8, 9]) (ids := [2, 8, 28900]) rfl rfl ?_)
   refine At.thenC ?_
   refine W.seq ?_
   refine W.seq ?_
   obtain ⟨y6, hy7, H⟩ := of_bindO H
   obtain ⟨y8, hy9, H⟩ := of_bindO H
   refine W.region env [] [⟨roL 1 enc_Int y6, [], 0, []⟩, ⟨.bool (y8), [], 0, []⟩] rfl rfl (by kernel_rfl) (.cons (by first | rfl | (simp; done) | omega | (simp; omega)) .nil) (.free (c_crew_shift__indices (⟨y1.1, p1⟩ : crew_shift) hy7) (.free (c_crew_shift__all fuel (⟨y1.1, p1⟩ : crew_shift) y6 y4 hy9) .nil)) (At.keep (ts := [1, 2, 8, 9, 33]) (ids := [2, 8, 28900]) rfl rfl ?_)
   refine At.thenC ?_
   refine W.cond rfl (fun hb10 => ?_) (fun hb10 => ?_)
   · have H := of_true H hb10
     refine W.rg env [4, 5] [] ?_
     refine W.ret ?_
     refine At.rthen ?_
     cases H
     exact At.ret env.ty rfl rfl (fun q hq => by cases hq) (Sim.tupL (.cons (Sim.nil _ _) (.cons (.refl _) .nil))) hval
   · have H := of_false H hb10
     refine W.skip ?_
     refine At.thenC ?_
     refine W.rg env [1, 2, 8, 9, 10] [2, 8, 28900] ?_
     refine W.seq ?_
     refine W.rg env [1, 2, 8, 9, 10, 35, 36] [2, 8, 28900] ?_
     refine W.block ?_
     refine At.nilOwn 10 510 3 1 (e := fun i => enc_Int (([] : List Int).getD i default)) rfl rfl ?_
     refine At.keep (ts := [1, 2, 8, 9, 10, 35, 36]) (ids := [2, 8, 510, 28900]) rfl rfl ?_
     refine W.len (t := 1) rfl (fun (hn11 : p1.length ≤ maxLen) => ?_)
     refine W.rangeGo H (fun i11 (s11 : (List Int) × (List Int)) => [(1, roL 1 enc_ListInt p1), (2, .lp 2 0), (8, .lp 8 0), (9, .buf 28900 (s11.1).length), (10, .buf 510 (s11.2).length), (35, .int .i64 (((p1.length : Nat) : Int))), (36, .int .i64 ((i11 : Int)))]) (fun i11 (s11 : (List Int) × (List Int)) => [(2, .cells [roL 4 enc_Task p0.Tasks, roL 1 enc_ListRange p0.Travel, roL 3 enc_Hand p0.Hands]), (8, .cells [.po y1.1.isSome [roL 4 enc_Task ((y1.1.getD default).Crew.Tasks), roL 1 enc_ListRange ((y1.1.getD default).Crew.Travel), roL 3 enc_Hand ((y1.1.getD default).Crew.Hands), roL 1 enc_Int ((y1.1.getD default).next)], roL 1 enc_ListInt p1]), (510, bufL 3 1 enc_Int s11.2), (28900, bufL 3 1 enc_Int s11.1)]) (.cons .q (.cons .q (.cons .q (.cons .qb (.cons .qb (.cons .qi (.cons .qi .nil))))))) (.cons .q (.cons .q (.cons .q (.cons .q .nil)))) (fun k11 i11 s11 hle11 H1 H2 K0 hK11 => ?_)
     refine W.rg env [1, 2, 8, 9, 10, 35, 36, 37] [2, 8, 510, 28900] ?_
     refine W.seq ?_
     refine W.cond rfl (fun hb12 => ?_) (fun hb12 => ?_)
     · have hi11 : i11 < p1.length := by have := of_decide_eq_true hb12; omega
       have H := H1 hi11
       refine W.skip ?_
       refine At.thenC ?_
       refine W.seq ?_
       refine W.block ?_
       refine W.rg env [1, 2, 8, 9, 10, 11, 35, 36] [2, 8, 510, 28900] ?_
       refine W.seq ?_
       refine W.rg env [1, 2, 8, 9, 10, 11, 35, 36, 40, 41, 42] [2, 8, 510, 28900] ?_
       refine W.block ?_
       refine At.keep (ts := [1, 2, 8, 9, 10, 11, 35, 36, 40, 41, 42]) (ids := [2, 8, 510, 28900]) rfl rfl ?_
       refine W.len (t := 40) rfl (fun (hn13 : p0.Hands.length ≤ maxLen) => ?_)
       refine W.rangeGo H (fun i13 (s13 : (List Int)) => [(1, roL 1 enc_ListInt p1), (2, .lp 2 0), (8, .lp 8 0), (9, .buf 28900 (s13).length), (10, .buf 510 (s11.2).length), (11, .int .i64 ((i11 : Int))), (35, .int .i64 (((p1.length : Nat) : Int))), (36, .int .i64 ((i11 : Int))), (40, roL 3 enc_Hand p0.Hands), (41, .int .i64 (((p0.Hands.length : Nat) : Int))), (42, .int .i64 ((i13 : Int)))]) (fun i13 (s13 : (List Int)) => [(2, .cells [roL 4 enc_Task p0.Tasks, roL 1 enc_ListRange p0.Travel, roL 3 enc_Hand p0.Hands]), (8, .cells [.po y1.1.isSome [roL 4 enc_Task ((y1.1.getD default).Crew.Tasks), roL 1 enc_ListRange ((y1.1.getD default).Crew.Travel), roL 3 enc_Hand ((y1.1.getD default).Crew.Hands), roL 1 enc_Int ((y1.1.getD default).next)], roL 1 enc_ListInt p1]), (510, bufL 3 1 enc_Int s11.2), (28900, bufL 3 1 enc_Int s13)]) (.cons .q (.cons .q (.cons .q (.cons .qb (.cons .qb (.cons .qi (.cons .qi (.cons .qi (.cons .q (.cons .qi (.cons .qi .nil))))))))))) (.cons .q (.cons .q (.cons .q (.cons .q .nil)))) (fun k13 i13 s13 hle13 H1 H2 K0 hK13 => ?_)
       refine W.rg env [1, 2, 8, 9, 10, 11, 35, 36, 40, 41, 42, 43] [2, 8, 510, 28900] ?_
       refine W.seq ?_
       refine W.cond rfl (fun hb14 => ?_) (fun hb14 => ?_)
       · have hi13 : i13 < p0.Hands.length := by have := of_decide_eq_true hb14; omega
         have H := H1 hi13
         refine W.skip ?_
         refine At.thenC ?_
         refine W.seq ?_
         refine W.block ?_
         refine W.sr env [] [] [1, 2, 8, 9, 10, 11, 12, 13, 35, 36, 40, 41, 42] [2, 8, 13, 510, 28900] rfl rfl rfl (.cons (⟨by omega, by omega⟩ : 0 ≤ (i13 : Int) ∧ (i13 : Int) < ((p0.Hands.length : Nat) : Int)) .nil) .nil ?_
         refine W.seq ?_
         refine W.seq ?_
         obtain ⟨hc15, H⟩ := of_must H
         obtain ⟨y16, hy17, H⟩ := of_bindO H
         obtain ⟨hc18, H⟩ := of_must H
         obtain ⟨y19, hy20, H⟩ := of_bindO H
         refine W.region env [] [⟨.bool (y16), [], 0, []⟩, ⟨.bool (y19), [], 0, []⟩] rfl rfl (by kernel_rfl) (.cons (⟨by omega, by omega⟩ : 0 ≤ (i11 : Int) ∧ (i11 : Int) < ((p1.length : Nat) : Int)) (.cons (fun hW => ⟨by first | rfl | (simp; done) | omega | (simp; omega), hc18 hW⟩) (.cons (fun h => h) (.cons (fun h => h) (.cons (fun hW => (by have := hc18 hW; first | omega | (simp only [Int.toNat_natCast] at *; omega) | (simp at this ⊢; omega))) (.cons (fun h => h) (.cons (fun h => h) (.cons (fun h => by rw [h]; rfl) .nil)))))))) (.free (Ctr.sim (.cons (Sim.rp_po hc15) (.cons (.refl _) (.cons (.refl _) .nil))) (c_crew_plan__able (y1.1.getD default) (p0.Hands.getD i13 default) (p1.getD i11 default) hy17)) (.on (fun hW => Ctr.sim (.cons (Sim.seg (Seg.cut enc_Int s13 0 i11 (by have := hc18 hW; omega))) (.cons (.refl _) .nil)) (c_slices_Contains_int ((s13.take i11).drop 0) (i13 : Int) (of_true hy20 hW))) .nil)) (At.keep (ts := [1, 2, 8, 9, 10, 11, 12, 35, 36, 40, 41, 42, 62]) (ids := [2, 8, 510, 28900]) rfl rfl ?_)
         refine At.thenC ?_
         refine W.cond rfl (fun hb21 => ?_) (fun hb21 => ?_)
         · have H := of_true H hb21
           refine W.exit ?_
           refine At.xthen ?_
           refine At.xhere ?_
           refine At.thenC ?_
           refine W.region env [] [] rfl rfl rfl (.cons (by unfold inI; have := hn13; (try unfold maxLen at this); omega) .nil) .nil (At.keep (ts := [1, 2, 8, 9, 10, 11, 35, 36, 40, 41, 42]) (ids := [2, 8, 510, 28900]) rfl rfl ?_)
           refine At.thenK (At.keep (ts := [1, 2, 8, 9, 10, 11, 35, 36, 40, 41, 42]) (ids := [2, 8, 510, 28900]) rfl rfl ?_)
           exact At.conv (.cons .q (.cons .q (.cons .q (.cons .qb (.cons .qb (.cons .qi (.cons .qi (.cons .qi (.cons .q (.cons .qi (.cons .qi .nil))))))))))) (.cons .q (.cons .q (.cons .q (.cons .q .nil)))) (hK13 hi13 s13 H)
         · have H := of_false H hb21
           refine W.skip ?_
           refine At.thenC ?_
           refine W.seq ?_
           obtain ⟨hc22, H⟩ := of_must H
           refine W.region env [] [] rfl rfl rfl (.cons (⟨by first | rfl | (simp; done) | omega | (simp; omega), hc22⟩) (.cons (⟨by first | rfl | (simp; done) | omega | (simp; omega), (by have := hc22; first | omega | (simp only [List.length_set]; omega) | (simp only [Int.toNat_natCast] at *; omega) | (simp at this ⊢; omega))⟩) .nil)) .nil (At.keep (ts := [1, 2, 8, 9, 10, 11, 35, 36, 40, 41, 42]) (ids := [2, 8, 510, 28900]) rfl rfl ?_)
           refine At.convM (.cons (.refl _) (.cons (.refl _) (.cons (.refl _) (.cons (y := bufL 3 1 enc_Int (s13.set i11 (i13 : Int))) (BSim.seg (Seg.set (Seg.refl enc_Int _) (i13 : Int) rfl)) .nil)))) ?_
           refine At.thenC ?_
           refine W.seq ?_
           obtain ⟨y23, hy24, H⟩ := of_bindO H
           obtain ⟨y25, hy26, H⟩ := of_bindO H
           refine W.region env [] [⟨roL 1 enc_Int y23, [], 0, []⟩, ⟨.bool (y25), [], 0, []⟩] rfl rfl (by kernel_rfl) (.cons (by first | rfl | (simp; done) | omega | (simp; omega)) .nil) (.free (c_crew_shift__indices (⟨y1.1, p1⟩ : crew_shift) hy24) (.free (c_crew_shift__all fuel (⟨y1.1, p1⟩ : crew_shift) y23 (s13.set i11 (i13 : Int)) hy26) .nil)) (At.keep (ts := [1, 2, 8, 9, 10, 11, 35, 36, 40, 41, 42, 71]) (ids := [2, 8, 510, 28900]) rfl rfl ?_)
           refine At.thenC ?_
           refine W.cond rfl (fun hb27 => ?_) (fun hb27 => ?_)
           · have H := of_true H hb27
             refine W.exit ?_
             refine At.xpast rfl ?_
             refine At.xthen ?_
             refine At.xthen ?_
             refine At.xhere ?_
             refine At.thenC ?_
             obtain ⟨hc28, H⟩ := of_must H
             obtain ⟨hc29, H⟩ := of_must H
             obtain ⟨hc30, H⟩ := of_must H
             refine W.region env [] [] rfl rfl (by first | rfl | kernel_rfl) (.cons (⟨by first | rfl | (simp; done) | omega | (simp; omega), hc28⟩) (.cons (⟨by first | rfl | (simp; done) | omega | (simp; omega), (by have := hc28; first | omega | (simp only [List.length_set]; omega) | (simp only [Int.toNat_natCast] at *; omega) | (simp at this ⊢; omega))⟩) (.cons hc29 (.cons (⟨by first | rfl | (simp; done) | omega | (simp; omega), by have := hc30; first | simpa using this | (unfold room at this ⊢; simp at this ⊢; omega)⟩) .nil)))) .nil (At.keep (ts := [1, 2, 8, 9, 10, 35, 36]) (ids := [2, 8, 510, 28900]) rfl rfl ?_)
             refine At.convM (.cons (.refl _) (.cons (.refl _) (.cons (y := bufL 3 1 enc_Int (s11.2 ++ ([(p0.Hands.getD (((s13.set i11 (i13 : Int)).getD i11 default)).toNat default).Id] : List Int))) (BSim.seg (Seg.push (Seg.refl enc_Int _) (Seg.lit (f := enc_Int) (sz := 1) ([(p0.Hands.getD (((s13.set i11 (i13 : Int)).getD i11 default)).toNat default).Id] : List Int) rfl rfl (fun _ => rfl)))) (.cons (.refl _) .nil)))) ?_
             refine At.inb ?_
             refine At.thenC ?_
             refine W.region env [] [] rfl rfl rfl (.cons (by unfold inI; have := hn11; (try unfold maxLen at this); omega) .nil) .nil (At.keep (ts := [1, 2, 8, 9, 10, 35, 36]) (ids := [2, 8, 510, 28900]) rfl rfl ?_)
             refine At.thenK (At.keep (ts := [1, 2, 8, 9, 10, 35, 36]) (ids := [2, 8, 510, 28900]) rfl rfl ?_)
             exact At.conv (.cons .q (.cons .q (.cons .q (.cons .qb (.cons .qb (.cons .qi (.cons .qi .nil))))))) (.cons .q (.cons .q (.cons .q (.cons .q .nil)))) (hK11 hi11 ((s13.set i11 (i13 : Int)), (s11.2 ++ ([(p0.Hands.getD (((s13.set i11 (i13 : Int)).getD i11 default)).toNat default).Id] : List Int))) H)
           · have H := of_false H hb27
             refine W.skip ?_
             refine At.inb ?_
             refine At.thenC ?_
             refine W.region env [] [] rfl rfl rfl (.cons (by unfold inI; have := hn13; (try unfold maxLen at this); omega) .nil) .nil (At.keep (ts := [1, 2, 8, 9, 10, 11, 35, 36, 40, 41, 42]) (ids := [2, 8, 510, 28900]) rfl rfl ?_)
             refine At.thenK (At.keep (ts := [1, 2, 8, 9, 10, 11, 35, 36, 40, 41, 42]) (ids := [2, 8, 510, 28900]) rfl rfl ?_)
             exact At.conv (.cons .q (.cons .q (.cons .q (.cons .qb (.cons .qb (.cons .qi (.cons .qi (.cons .qi (.cons .q (.cons .qi (.cons .qi .nil))))))))))) (.cons .q (.cons .q (.cons .q (.cons .q .nil)))) (hK13 hi13 (s13.set i11 (i13 : Int)) H)
       · have H := H2 (by have := of_decide_eq_false hb14; omega)
         refine W.exit ?_
         refine At.xthen ?_
         refine At.xthen ?_
         refine At.xhere ?_
         refine At.thenC ?_
         obtain ⟨hc31, H⟩ := of_must H
         obtain ⟨hc32, H⟩ := of_must H
         obtain ⟨hc33, H⟩ := of_must H
         refine W.region env [] [] rfl rfl (by first | rfl | kernel_rfl) (.cons (⟨by first | rfl | (simp; done) | omega | (simp; omega), hc31⟩) (.cons (⟨by first | rfl | (simp; done) | omega | (simp; omega), (by have := hc31; first | omega | (simp only [List.length_set]; omega) | (simp only [Int.toNat_natCast] at *; omega) | (simp at this ⊢; omega))⟩) (.cons hc32 (.cons (⟨by first | rfl | (simp; done) | omega | (simp; omega), by have := hc33; first | simpa using this | (unfold room at this ⊢; simp at this ⊢; omega)⟩) .nil)))) .nil (At.keep (ts := [1, 2, 8, 9, 10, 35, 36]) (ids := [2, 8, 510, 28900]) rfl rfl ?_)
         refine At.convM (.cons (.refl _) (.cons (.refl _) (.cons (y := bufL 3 1 enc_Int (s11.2 ++ ([(p0.Hands.getD ((s13.getD i11 default)).toNat default).Id] : List Int))) (BSim.seg (Seg.push (Seg.refl enc_Int _) (Seg.lit (f := enc_Int) (sz := 1) ([(p0.Hands.getD ((s13.getD i11 default)).toNat default).Id] : List Int) rfl rfl (fun _ => rfl)))) (.cons (.refl _) .nil)))) ?_
         refine At.inb ?_
         refine At.thenC ?_
         refine W.region env [] [] rfl rfl rfl (.cons (by unfold inI; have := hn11; (try unfold maxLen at this); omega) .nil) .nil (At.keep (ts := [1, 2, 8, 9, 10, 35, 36]) (ids := [2, 8, 510, 28900]) rfl rfl ?_)
         refine At.thenK (At.keep (ts := [1, 2, 8, 9, 10, 35, 36]) (ids := [2, 8, 510, 28900]) rfl rfl ?_)
         exact At.conv (.cons .q (.cons .q (.cons .q (.cons .qb (.cons .qb (.cons .qi (.cons .qi .nil))))))) (.cons .q (.cons .q (.cons .q (.cons .q .nil)))) (hK11 hi11 (s13, (s11.2 ++ ([(p0.Hands.getD ((s13.getD i11 default)).toNat default).Id] : List Int))) H)
     · have H := H2 (by have := of_decide_eq_false hb12; omega)
       refine W.exit ?_
       refine At.xthen ?_
       refine At.xthen ?_
       refine At.xhere ?_
       refine At.thenC ?_
       refine W.rg env [4, 5] [510] ?_
       refine W.ret ?_
       cases H
       exact At.ret env.ty rfl rfl (fun q hq => by cases hq; exact (by first | rfl | (simp; done) | omega | (simp; omega))) (.refl _) hval
theorem c_gasolierref04_CheckRounds (p0 : Crew) (p1 : (List (List Int))) {r : Int} (H : gasolierref04_CheckRounds p0 p1 = some r) : Ctr Tryz.prog 45 [.agg [roL 4 enc_Task p0.Tasks, roL 1 enc_ListRange p0.Travel, roL 3 enc_Hand p0.Hands], roL 1 enc_ListInt p1] (.int .i64 (r)) := by
 unfold gasolierref04_CheckRounds at H
 refine Ctr.of_body (N := 73) Tryz.func45 (by kernel_rfl) (c := _) rfl Tryz.ntmps45 rfl (fun w0 h0 hval => ?_)
 refine W.rg env [1, 2] [2] ?_
 refine W.seq ?_
 refine W.seq ?_
 obtain ⟨y1, hy2, H⟩ := of_bindO H
 refine W.region env [] [⟨.int .i64 (y1), [], 0, []⟩] rfl rfl rfl .nil (.free (c_gasolierref04_Check p0 hy2) .nil) (At.keep (ts := [1, 2, 5]) (ids := [2]) rfl rfl ?_)
 refine At.thenC ?_
 refine W.rg env [1, 2, 5, 16] [2] ?_
 refine W.cond rfl (fun hb3 => ?_) (fun hb3 => ?_)
 · have H := of_true H hb3
   refine W.rg env [4] [] ?_
   refine W.ret ?_
   refine At.rthen ?_
   cases H
   exact At.ret env.ty rfl rfl (fun q hq => by cases hq) (.refl _) hval
 · have H := of_false H hb3
   refine W.skip ?_
   refine At.thenC ?_
   refine W.seq ?_
   obtain ⟨hc4, H⟩ := of_must H
   refine W.region env [] [] rfl rfl rfl (.cons hc4 .nil) .nil (At.keep (ts := [1, 2, 6]) (ids := [2, 21]) rfl rfl ?_)
   refine At.convM (.cons (.refl _) (.cons (y := bufL 3 1 enc_Int (List.replicate (((p0.Tasks.length : Nat) : Int)).toNat (0 : Int))) (BSim.seg (Seg.made (f := enc_Int) 0 rfl)) .nil)) ?_
   refine At.thenC ?_
   refine W.seq ?_
   refine W.rg env [1, 2, 6, 22, 23, 24] [2, 21] ?_
   refine W.block ?_
   refine At.keep (ts := [1, 2, 6, 22, 23, 24]) (ids := [2, 21]) rfl rfl ?_
   refine W.len (t := 22) rfl (fun (hn5 : p1.length ≤ maxLen) => ?_)
   refine W.rangeGo H (fun i5 (s5 : (List Int)) => [(1, roL 1 enc_ListInt p1), (2, .lp 2 0), (6, .buf 21 (s5).length), (22, roL 1 enc_ListInt p1), (23, .int .i64 (((p1.length : Nat) : Int))), (24, .int .i64 ((i5 : Int)))]) (fun i5 (s5 : (List Int)) => [(2, .cells [roL 4 enc_Task p0.Tasks, roL 1 enc_ListRange p0.Travel, roL 3 enc_Hand p0.Hands]), (21, bufL 3 1 enc_Int s5)]) (.cons .q (.cons .q (.cons .qb (.cons .q (.cons .qi (.cons .qi .nil)))))) (.cons .q (.cons .q .nil)) (fun k5 i5 s5 hle5 H1 H2 K0 hK5 => ?_)
   refine W.rg env [1, 2, 6, 22, 23, 24, 25] [2, 21] ?_
   refine W.seq ?_
   refine W.cond rfl (fun hb6 => ?_) (fun hb6 => ?_)
   · have hi5 : i5 < p1.length := by have := of_decide_eq_true hb6; omega
     have H := H1 hi5
     refine W.skip ?_
     refine At.thenC ?_
     refine W.seq ?_
     refine W.block ?_
     refine W.sr env [] [] [1, 2, 6, 7, 8, 22, 23, 24] [2, 21] rfl rfl rfl (.cons (⟨by omega, by omega⟩ : 0 ≤ (i5 : Int) ∧ (i5 : Int) < ((p1.length : Nat) : Int)) .nil) .nil ?_
     refine W.seq ?_
     refine W.seq ?_
     obtain ⟨y7, hy8, H⟩ := of_bindO H
     obtain ⟨hc9, H⟩ := of_must H
     obtain ⟨hc10, H⟩ := of_must H
     obtain ⟨hc11, H⟩ := of_must H
     obtain ⟨hc12, H⟩ := of_must H
     refine W.region env [] [⟨.bool (y7), [], 0, []⟩] rfl rfl (by kernel_rfl) (.cons (fun h => h) (.cons (fun h => h) (.cons hc9 (.cons (fun h => h) (.cons hc10 (.cons (fun h => h) (.cons (fun h => h) (.cons (fun h => h) (.cons hc11 (.cons (fun h => h) (.cons (fun h => h) (.cons hc12 (.cons (fun h => h) (.cons (fun h => h) (.cons (fun h => h) (.cons (fun h => h) (.cons (fun h => h) (.cons (fun hW h => by revert hW h; first | (simp +contextual; done) | grind) (.cons (fun h => by rw [h]; rfl) .nil))))))))))))))))))) (.free (c_gasolierref04_isRound p0 (p1.getD i5 default) hy8) .nil) (At.keep (ts := [1, 2, 6, 8, 22, 23, 24, 49]) (ids := [2, 21]) rfl rfl ?_)
     refine At.thenC ?_
     refine W.cond rfl (fun hb13 => ?_) (fun hb13 => ?_)
     · have H := of_true H hb13
       refine W.rg env [4] [] ?_
       refine W.ret ?_
       refine At.rthen ?_
       refine At.rinb ?_
       refine At.rthen ?_
       refine At.rthen ?_
       refine At.rinb ?_
       refine At.rthen ?_
       cases H
       exact At.ret env.ty rfl rfl (fun q hq => by cases hq) (.refl _) hval
     · have H := of_false H hb13
       refine W.skip ?_
       refine At.thenC ?_
       refine W.rg env [1, 2, 6, 22, 23, 24, 50, 51, 52] [2, 21] ?_
       refine W.block ?_
       refine At.keep (ts := [1, 2, 6, 22, 23, 24, 50, 51, 52]) (ids := [2, 21]) rfl rfl ?_
       refine W.len (t := 50) rfl (fun (hn14 : (p1.getD i5 default).length ≤ maxLen) => ?_)
       refine W.rangeGo H (fun i14 (s14 : (List Int)) => [(1, roL 1 enc_ListInt p1), (2, .lp 2 0), (6, .buf 21 (s14).length), (22, roL 1 enc_ListInt p1), (23, .int .i64 (((p1.length : Nat) : Int))), (24, .int .i64 ((i5 : Int))), (50, roL 1 enc_Int (p1.getD i5 default)), (51, .int .i64 ((((p1.getD i5 default).length : Nat) : Int))), (52, .int .i64 ((i14 : Int)))]) (fun i14 (s14 : (List Int)) => [(2, .cells [roL 4 enc_Task p0.Tasks, roL 1 enc_ListRange p0.Travel, roL 3 enc_Hand p0.Hands]), (21, bufL 3 1 enc_Int s14)]) (.cons .q (.cons .q (.cons .qb (.cons .q (.cons .qi (.cons .qi (.cons .q (.cons .qi (.cons .qi .nil))))))))) (.cons .q (.cons .q .nil)) (fun k14 i14 s14 hle14 H1 H2 K0 hK14 => ?_)
       refine W.rg env [1, 2, 6, 22, 23, 24, 50, 51, 52, 53] [2, 21] ?_
       refine W.seq ?_
       refine W.cond rfl (fun hb15 => ?_) (fun hb15 => ?_)
       · have hi14 : i14 < (p1.getD i5 default).length := by have := of_decide_eq_true hb15; omega
         have H := H1 hi14
         refine W.skip ?_
         refine At.thenC ?_
         refine W.seq ?_
         refine W.block ?_
         refine W.sr env [] [] [1, 2, 6, 10, 22, 23, 24, 50, 51, 52] [2, 21] rfl rfl rfl (.cons (⟨by omega, by omega⟩ : 0 ≤ (i14 : Int) ∧ (i14 : Int) < (((p1.getD i5 default).length : Nat) : Int)) .nil) .nil ?_
         obtain ⟨hc16, H⟩ := of_must H
         obtain ⟨hc17, H⟩ := of_must H
         obtain ⟨hc18, H⟩ := of_must H
         refine W.region env [] [] rfl rfl rfl (.cons (⟨by first | rfl | (simp; done) | omega | (simp; omega), hc16⟩) (.cons (⟨by first | rfl | (simp; done) | omega | (simp; omega), (by have := hc16; first | omega | (simp only [List.length_set]; omega) | (simp only [Int.toNat_natCast] at *; omega) | (simp at this ⊢; omega))⟩) (.cons hc17 (.cons (⟨by first | rfl | (simp; done) | omega | (simp; omega), hc18⟩) (.cons (⟨by first | rfl | (simp; done) | omega | (simp; omega), (by have := hc18; first | omega | (simp only [List.length_set]; omega) | (simp only [Int.toNat_natCast] at *; omega) | (simp at this ⊢; omega))⟩) .nil))))) .nil (At.keep (ts := [1, 2, 6, 22, 23, 24, 50, 51, 52]) (ids := [2, 21]) rfl rfl ?_)
         refine At.convM (.cons (.refl _) (.cons (y := bufL 3 1 enc_Int (s14.set (((p1.getD i5 default).getD i14 default)).toNat ((s14.getD (((p1.getD i5 default).getD i14 default)).toNat default) + 1))) (BSim.seg (Seg.set (Seg.refl enc_Int _) ((s14.getD (((p1.getD i5 default).getD i14 default)).toNat default) + 1) rfl)) .nil)) ?_
         refine At.inb ?_
         refine At.thenC ?_
         refine W.region env [] [] rfl rfl rfl (.cons (by unfold inI; have := hn14; (try unfold maxLen at this); omega) .nil) .nil (At.keep (ts := [1, 2, 6, 22, 23, 24, 50, 51, 52]) (ids := [2, 21]) rfl rfl ?_)
         refine At.thenK (At.keep (ts := [1, 2, 6, 22, 23, 24, 50, 51, 52]) (ids := [2, 21]) rfl rfl ?_)
         exact At.conv (.cons .q (.cons .q (.cons .qb (.cons .q (.cons .qi (.cons .qi (.cons .q (.cons .qi (.cons .qi .nil))))))))) (.cons .q (.cons .q .nil)) (hK14 hi14 (s14.set (((p1.getD i5 default).getD i14 default)).toNat ((s14.getD (((p1.getD i5 default).getD i14 default)).toNat default) + 1)) H)
       · have H := H2 (by have := of_decide_eq_false hb15; omega)
         refine W.exit ?_
         refine At.xthen ?_
         refine At.xthen ?_
         refine At.xhere ?_
         refine At.inb ?_
         refine At.thenC ?_
         refine W.region env [] [] rfl rfl rfl (.cons (by unfold inI; have := hn5; (try unfold maxLen at this); omega) .nil) .nil (At.keep (ts := [1, 2, 6, 22, 23, 24]) (ids := [2, 21]) rfl rfl ?_)
         refine At.thenK (At.keep (ts := [1, 2, 6, 22, 23, 24]) (ids := [2, 21]) rfl rfl ?_)
         exact At.conv (.cons .q (.cons .q (.cons .qb (.cons .q (.cons .qi (.cons .qi .nil)))))) (.cons .q (.cons .q .nil)) (hK5 hi5 s14 H)
   · have H := H2 (by have := of_decide_eq_false hb6; omega)
     refine W.exit ?_
     refine At.xthen ?_
     refine At.xthen ?_
     refine At.xhere ?_
     refine At.thenC ?_
     refine W.seq ?_
     refine W.sr env [] [] [64, 65, 66] [21] rfl rfl rfl (.cons (by first | rfl | (simp; done) | omega | (simp; omega)) .nil) .nil ?_
     refine W.block ?_
     refine At.keep (ts := [64, 65, 66]) (ids := [21]) rfl rfl ?_
     obtain ⟨hn19, H⟩ := of_must H
     refine W.rangeGo H (fun i19 (s19 : Unit) => [(64, .buf 21 (s5).length), (65, .int .i64 (((s5.length : Nat) : Int))), (66, .int .i64 ((i19 : Int)))]) (fun i19 (s19 : Unit) => [(21, bufL 3 1 enc_Int s5)]) (.cons .qb (.cons .qi (.cons .qi .nil))) (.cons .q .nil) (fun k19 i19 s19 hle19 H1 H2 K0 hK19 => ?_)
     refine W.rg env [64, 65, 66, 67] [21] ?_
     refine W.seq ?_
     refine W.cond rfl (fun hb20 => ?_) (fun hb20 => ?_)
     · have hi19 : i19 < s5.length := by have := of_decide_eq_true hb20; omega
       have H := H1 hi19
       refine W.skip ?_
       refine At.thenC ?_
       refine W.seq ?_
       refine W.block ?_
       refine W.sr env [] [] [12, 64, 65, 66] [21] rfl rfl rfl (.cons (⟨by first | rfl | (simp; done) | omega | (simp; omega), (⟨by omega, by omega⟩ : 0 ≤ (i19 : Int) ∧ (i19 : Int) < ((s5.length : Nat) : Int))⟩) (.cons (⟨by first | rfl | (simp; done) | omega | (simp; omega), (by have := (⟨by omega, by omega⟩ : 0 ≤ (i19 : Int) ∧ (i19 : Int) < ((s5.length : Nat) : Int)); first | omega | (simp only [List.length_set]; omega) | (simp only [Int.toNat_natCast] at *; omega) | (simp at this ⊢; omega))⟩) .nil)) .nil ?_
       refine W.rg env [64, 65, 66, 71] [21] ?_
       refine W.cond rfl (fun hb21 => ?_) (fun hb21 => ?_)
       · have H := of_true H hb21
         refine W.rg env [4] [] ?_
         refine W.ret ?_
         refine At.rinb ?_
         refine At.rthen ?_
         refine At.rthen ?_
         refine At.rinb ?_
         refine At.rthen ?_
         cases H
         exact At.ret env.ty rfl rfl (fun q hq => by cases hq) (.refl _) hval
       · have H := of_false H hb21
         refine W.skip ?_
         refine At.inb ?_
         refine At.thenC ?_
         refine W.region env [] [] rfl rfl rfl (.cons (by unfold inI; have := hn19; (try unfold maxLen at this); omega) .nil) .nil (At.keep (ts := [64, 65, 66]) (ids := [21]) rfl rfl ?_)
         refine At.thenK (At.keep (ts := [64, 65, 66]) (ids := [21]) rfl rfl ?_)
         exact At.conv (.cons .qb (.cons .qi (.cons .qi .nil))) (.cons .q .nil) (hK19 hi19 () H)
     · have H := H2 (by have := of_decide_eq_false hb20; omega)
       refine W.exit ?_
       refine At.xthen ?_
       refine At.xthen ?_
       refine At.xhere ?_
       refine At.thenC ?_
       refine W.rg env [4] [] ?_
       refine W.ret ?_
       cases H
       exact At.ret env.ty rfl rfl (fun q hq => by cases hq) (.refl _) hval
theorem c_gasolierref04_all (p0 : Crew) {r : (List Bool)} (H : gasolierref04_all p0 = some r) : Ctr Tryz.prog 46 [.agg [roL 4 enc_Task p0.Tasks, roL 1 enc_ListRange p0.Travel, roL 3 enc_Hand p0.Hands]] (roL 1 enc_Bool r) := by
 unfold gasolierref04_all at H
 refine Ctr.of_body (N := 19) Tryz.func46 (by kernel_rfl) (c := _) rfl Tryz.ntmps46 rfl (fun w0 h0 hval => ?_)
 refine W.rg env [1] [1] ?_
 refine W.seq ?_
 obtain ⟨hc1, H⟩ := of_must H
 refine W.region env [] [] rfl rfl rfl (.cons hc1 .nil) .nil (At.keep (ts := [3]) (ids := [8]) rfl rfl ?_)
 refine At.convM (.cons (y := bufL 4 1 enc_Bool (List.replicate (((p0.Hands.length : Nat) : Int)).toNat (false : Bool))) (BSim.seg (Seg.made (f := enc_Bool) false rfl)) .nil) ?_
 refine At.thenC ?_
 refine W.seq ?_
 refine W.sr env [] [] [3, 10, 11] [8] rfl rfl rfl (.cons (by first | rfl | (simp; done) | omega | (simp; omega)) .nil) .nil ?_
 refine W.block ?_
 refine At.keep (ts := [3, 10, 11]) (ids := [8]) rfl rfl ?_
 obtain ⟨hn2, H⟩ := of_must H
 refine W.rangeGo H (fun i2 (s2 : (List Bool)) => [(3, .buf 8 (s2).length), (10, .int .i64 ((((List.replicate (((p0.Hands.length : Nat) : Int)).toNat (false : Bool)).length : Nat) : Int))), (11, .int .i64 ((i2 : Int)))]) (fun i2 (s2 : (List Bool)) => [(8, bufL 4 1 enc_Bool s2)]) (.cons .qb (.cons .qi (.cons .qi .nil))) (.cons .q .nil) (fun k2 i2 s2 hle2 H1 H2 K0 hK2 => ?_)
 refine W.rg env [3, 10, 11, 12] [8] ?_
 refine W.seq ?_
 refine W.cond rfl (fun hb3 => ?_) (fun hb3 => ?_)
 · have hi2 : i2 < (List.replicate (((p0.Hands.length : Nat) : Int)).toNat (false : Bool)).length := by have := of_decide_eq_true hb3; omega
   have H := H1 hi2
   refine W.skip ?_
   refine At.thenC ?_
   refine W.seq ?_
   refine W.block ?_
   refine W.rg env [3, 4, 10, 11] [8] ?_
   obtain ⟨hc4, H⟩ := of_must H
   refine W.region env [] [] rfl rfl rfl (.cons (⟨by first | rfl | (simp; done) | omega | (simp; omega), hc4⟩) (.cons (⟨by first | rfl | (simp; done) | omega | (simp; omega), (by have := hc4; first | omega | (simp only [List.length_set]; omega) | (simp only [Int.toNat_natCast] at *; omega) | (simp at this ⊢; omega))⟩) .nil)) .nil (At.keep (ts := [3, 10, 11]) (ids := [8]) rfl rfl ?_)
   refine At.convM (.cons (y := bufL 4 1 enc_Bool (s2.set i2 true)) (BSim.seg (Seg.set (Seg.refl enc_Bool _) true rfl)) .nil) ?_
   refine At.inb ?_
   refine At.thenC ?_
   refine W.region env [] [] rfl rfl rfl (.cons (by unfold inI; have := hn2; (try unfold maxLen at this); omega) .nil) .nil (At.keep (ts := [3, 10, 11]) (ids := [8]) rfl rfl ?_)
   refine At.thenK (At.keep (ts := [3, 10, 11]) (ids := [8]) rfl rfl ?_)
   exact At.conv (.cons .qb (.cons .qi (.cons .qi .nil))) (.cons .q .nil) (hK2 hi2 (s2.set i2 true) H)
 · have H := H2 (by have := of_decide_eq_false hb3; omega)
   refine W.exit ?_
   refine At.xthen ?_
   refine At.xthen ?_
   refine At.xhere ?_
   refine At.thenC ?_
   refine W.rg env [2] [8] ?_
   refine W.ret ?_
   cases H
   exact At.ret env.ty rfl rfl (fun q hq => by cases hq; exact (by first | rfl | (simp; done) | omega | (simp; omega))) (.refl _) hval
theorem cl_gasolierref04_Job__given_l (fuel : Nat) : ∀ (n : Nat) (p0 : gasolierref04_Job) (p1 : Int) (p2 : (List Bool)) {r : (Bool × gasolierref04_Job)} (H : gasolierref04_Job__given_l fuel n p0 p1 p2 = some r), CtrO Tryz.prog 86 [.lp 90000 0, .int .i64 (p1), roL 1 enc_Bool p2] [(90000, .cells [roL 4 enc_Task p0.Crew.Tasks, roL 1 enc_ListRange p0.Crew.Travel, roL 3 enc_Hand p0.Crew.Hands, roL 1 enc_ListInt p0.Rounds, .buf 90001 (p0.Of).length, .buf 90002 (p0.Seen).length]), (90001, bufL 3 1 enc_Int p0.Of), (90002, bufL 4 1 enc_Bool p0.Seen)] (.bool (r.1)) [(90000, .cells [roL 4 enc_Task r.2.Crew.Tasks, roL 1 enc_ListRange r.2.Crew.Travel, roL 3 enc_Hand r.2.Crew.Hands, roL 1 enc_ListInt r.2.Rounds, .buf 90001 (r.2.Of).length, .buf 90002 (r.2.Seen).length]), (90001, bufL 3 1 enc_Int r.2.Of), (90002, bufL 4 1 enc_Bool r.2.Seen)] := by
 intro n; induction n with
 | zero => intro p0 p1 p2 r H; cases H
 | succ n ih =>
   intro p0 p1 p2 r H
   have H : gasolierref04_Job__given_l_F fuel (gasolierref04_Job__given_l fuel n) p0 p1 p2 = some r := H
   unfold gasolierref04_Job__given_l_F at H
   refine CtrL.of_body (N := 88) Tryz.func86 (by kernel_rfl) (c := _) rfl Tryz.ntmps86 rfl rfl (fun w0 h0 ρb hval hdom hent => ?_)
   refine W.rg env [0, 1, 2] [90000, 90001, 90002] ?_
   refine W.seq ?_
   refine W.rg env [0, 1, 2, 13, 14] [90000, 90001, 90002] ?_
   refine W.block ?_
   refine At.keep (ts := [0, 1, 2, 13, 14]) (ids := [90000, 90001, 90002]) rfl rfl ?_
   obtain ⟨hn1, H⟩ := of_must H
   refine W.rangeGo H (fun i1 (s1 : (List Int) × (List Bool) × (List Task) × (List (List Range)) × (List Hand) × (List (List Int))) => [(0, .lp 90000 0), (1, .int .i64 (p1)), (2, roL 1 enc_Bool p2), (13, .int .i64 (((p0.Crew.Hands.length : Nat) : Int))), (14, .int .i64 ((i1 : Int)))]) (fun i1 (s1 : (List Int) × (List Bool) × (List Task) × (List (List Range)) × (List Hand) × (List (List Int))) => [(90000, .cells [roL 4 enc_Task s1.2.2.1, roL 1 enc_ListRange s1.2.2.2.1, roL 3 enc_Hand s1.2.2.2.2.1, roL 1 enc_ListInt s1.2.2.2.2.2, .buf 90001 (s1.1).length, .buf 90002 (s1.2.1).length]), (90001, bufL 3 1 enc_Int s1.1), (90002, bufL 4 1 enc_Bool s1.2.1)]) (.cons .q (.cons .qi (.cons .q (.cons .qi (.cons .qi .nil))))) (.cons (BSim.cells (.cons .q (.cons .q (.cons .q (.cons .q (.cons .qc (.cons .qc .nil))))))) (.cons .q (.cons .q .nil))) (fun k1 i1 s1 hle1 H1 H2 K0 hK1 => ?_)
   refine W.rg env [0, 1, 2, 13, 14, 15] [90000, 90001, 90002] ?_
   refine W.seq ?_
   refine W.cond rfl (fun hb2 => ?_) (fun hb2 => ?_)
   · have hi1 : i1 < p0.Crew.Hands.length := by have := of_decide_eq_true hb2; omega
     have H := H1 hi1
     refine W.skip ?_
     refine At.thenC ?_
     refine W.seq ?_
     refine W.joinC H (fun (s3 : (List Task) × (List (List Range)) × (List Hand) × (List (List Int)) × (List Int) × (List Bool)) => [(0, .lp 90000 0), (1, .int .i64 (p1)), (2, roL 1 enc_Bool p2), (13, .int .i64 (((p0.Crew.Hands.length : Nat) : Int))), (14, .int .i64 ((i1 : Int)))]) (fun (s3 : (List Task) × (List (List Range)) × (List Hand) × (List (List Int)) × (List Int) × (List Bool)) => [(90000, .cells [roL 4 enc_Task s3.1, roL 1 enc_ListRange s3.2.1, roL 3 enc_Hand s3.2.2.1, roL 1 enc_ListInt s3.2.2.2.1, .buf 90001 (s3.2.2.2.2.1).length, .buf 90002 (s3.2.2.2.2.2).length]), (90001, bufL 3 1 enc_Int s3.2.2.2.2.1), (90002, bufL 4 1 enc_Bool s3.2.2.2.2.2)]) (fun s3 H => ?_) (fun k3 H hK3 => ?_)
     · refine W.region env [] [] rfl rfl rfl (.cons (by unfold inI; have := hn1; (try unfold maxLen at this); omega) .nil) .nil (At.keep (ts := [0, 1, 2, 13, 14]) (ids := [90000, 90001, 90002]) rfl rfl ?_)
       refine At.thenK (At.keep (ts := [0, 1, 2, 13, 14]) (ids := [90000, 90001, 90002]) rfl rfl ?_)
       exact At.conv (.cons .q (.cons .qi (.cons .q (.cons .qi (.cons .qi .nil))))) (.cons (BSim.cells (.cons .q (.cons .q (.cons .q (.cons .q (.cons .qc (.cons .qc .nil))))))) (.cons .q (.cons .q .nil))) (hK1 hi1 (s3.2.2.2.2.1, s3.2.2.2.2.2, s3.1, s3.2.1, s3.2.2.1, s3.2.2.2.1) H)
     · refine W.block ?_
       refine W.rg env [0, 1, 2, 7, 13, 14] [90000, 90001, 90002] ?_
       refine W.seq ?_
       refine W.seq ?_
       obtain ⟨hc4, H⟩ := of_must H
       obtain ⟨hc5, H⟩ := of_must H
       obtain ⟨hc6, H⟩ := of_must H
       obtain ⟨hc7, H⟩ := of_must H
       obtain ⟨y8, hy9, H⟩ := of_bindO H
       refine W.region env [] [⟨.bool (y8), [], 0, []⟩] rfl rfl (by kernel_rfl) (.cons hc4 (.cons (fun h => h) (.cons (fun h => h) (.cons (fun h => h) (.cons (fun hW => ⟨by first | rfl | (simp; done) | omega | (simp; omega), hc5 hW⟩) (.cons (fun h => h) (.cons (fun h => h) (.cons (fun hW => (⟨by first | rfl | (simp; done) | omega | (simp; omega), (by have := hc5 hW; first | omega | (simp only [List.length_set]; omega) | (simp only [Int.toNat_natCast] at *; omega) | (simp at this ⊢; omega))⟩)) (.cons (fun h => h) (.cons (fun h => by rw [h]; rfl) (.cons (fun h => h) (.cons (fun h => h) (.cons (fun h => h) (.cons (fun h => h) (.cons (fun h => h) (.cons (fun h => h) (.cons (fun h => h) (.cons hc6 (.cons (fun h => h) (.cons (fun h => h) (.cons (fun h => h) (.cons (fun h => h) (.cons (fun h => h) (.cons (fun h => h) (.cons hc7 (.cons (fun h => h) (.cons (fun h => h) (.cons (fun h => h) (.cons (fun h => h) (.cons (fun h => h) (.cons (fun h => h) (.cons (fun h => h) (.cons (fun h => by rw [h]; rfl) .nil))))))))))))))))))))))))))))))))) (.on (fun hW => c_gasolierref04_able (⟨s1.2.2.1, s1.2.2.2.1, s1.2.2.2.2.1⟩ : Crew) (s1.2.2.2.2.1.getD i1 default) (s1.2.2.2.2.2.getD (p1).toNat default) (of_true hy9 hW)) .nil) (At.keep (ts := [0, 1, 2, 7, 13, 14, 53]) (ids := [90000, 90001, 90002]) rfl rfl ?_)
       refine At.thenC ?_
       refine W.cond rfl (fun hb10 => ?_) (fun hb10 => ?_)
       · have H := of_true H hb10
         refine W.exit ?_
         refine At.xthen ?_
         refine At.xhere ?_
         refine At.thenK (At.keep (ts := [0, 1, 2, 13, 14]) (ids := [90000, 90001, 90002]) rfl rfl ?_)
         exact At.conv (.cons .q (.cons .qi (.cons .q (.cons .qi (.cons .qi .nil))))) (.cons (BSim.cells (.cons .q (.cons .q (.cons .q (.cons .q (.cons .qc (.cons .qc .nil))))))) (.cons .q (.cons .q .nil))) (hK3 (s1.2.2.1, s1.2.2.2.1, s1.2.2.2.2.1, s1.2.2.2.2.2, s1.1, s1.2.1) H)
       · have H := of_false H hb10
         refine W.skip ?_
         refine At.thenC ?_
         refine W.seq ?_
         obtain ⟨hc11, H⟩ := of_must H
         refine W.region env [] [] rfl rfl rfl (.cons (⟨by first | rfl | (simp; done) | omega | (simp; omega), hc11⟩) (.cons (⟨by first | rfl | (simp; done) | omega | (simp; omega), (by have := hc11; first | omega | (simp only [List.length_set]; omega) | (simp only [Int.toNat_natCast] at *; omega) | (simp at this ⊢; omega))⟩) .nil)) .nil (At.keep (ts := [0, 1, 2, 7, 13, 14]) (ids := [90000, 90001, 90002]) rfl rfl ?_)
         refine At.convM (.cons (.refl _) (.cons (.refl _) (.cons (y := bufL 4 1 enc_Bool (s1.2.1.set i1 true)) (BSim.seg (Seg.set (Seg.refl enc_Bool _) true rfl)) .nil))) ?_
         refine At.thenC ?_
         refine W.seq ?_
         obtain ⟨hc12, H⟩ := of_must H
         obtain ⟨hc13, H⟩ := of_must H
         obtain ⟨y14, hy15, H⟩ := of_bindO H
         obtain ⟨hc16, H⟩ := of_must H
         obtain ⟨hc17, H⟩ := of_must H
         refine W.region env [] [⟨.bool (y14.1), [(90000, .cells [roL 4 enc_Task y14.2.Crew.Tasks, roL 1 enc_ListRange y14.2.Crew.Travel, roL 3 enc_Hand y14.2.Crew.Hands, roL 1 enc_ListInt y14.2.Rounds, .buf 90001 (y14.2.Of).length, .buf 90002 (y14.2.Seen).length]), (90001, bufL 3 1 enc_Int y14.2.Of), (90002, bufL 4 1 enc_Bool y14.2.Seen)], 0, [90000, 90001, 90002]⟩] rfl rfl (by kernel_rfl) (.cons (⟨by first | rfl | (simp; done) | omega | (simp; omega), hc12⟩) (.cons (⟨by first | rfl | (simp; done) | omega | (simp; omega), (by have := hc12; first | omega | (simp only [List.length_set]; omega) | (simp only [Int.toNat_natCast] at *; omega) | (simp at this ⊢; omega))⟩) (.cons (fun h => h) (.cons (fun h => h) (.cons (fun h => h) (.cons (fun hW => ⟨by first | rfl | (simp; done) | omega | (simp; omega), hc13 hW⟩) (.cons (fun h => h) (.cons (fun h => h) (.cons (fun hW => (⟨by first | rfl | (simp; done) | omega | (simp; omega), (by have := hc13 hW; first | omega | (simp only [List.length_set]; omega) | (simp only [Int.toNat_natCast] at *; omega) | (simp at this ⊢; omega))⟩)) (.cons (fun h => h) (.cons (fun hW => by obtain rfl := lend_off hy15 hW; first | exact .refl _ | exact .q) (.cons (fun hW => by obtain rfl := lend_off hy15 hW; first | exact .refl _ | exact .q) (.cons (fun hW => by obtain rfl := lend_off hy15 hW; first | exact .refl _ | exact .q) (.cons (fun h => h) (.cons (fun h => h) (.cons (fun h => h) (.cons (fun h => by rw [h]; rfl) .nil))))))))))))))))) (.on (fun hW => (CtrO.sim (CtrO.ren (ih (⟨(⟨s1.2.2.1, s1.2.2.2.1, s1.2.2.2.2.1⟩ : Crew), s1.2.2.2.2.2, s1.1, (s1.2.1.set i1 true)⟩ : gasolierref04_Job) (s1.1.getD i1 default) p2 (of_true hy15 hW)) [(90000, 90000), (90001, 90001), (90002, 90002)]) (.cons (.refl _) (.cons (.refl _) (.cons (.refl _) .nil))) (.cons (BSim.cells (.cons (.refl _) (.cons (.refl _) (.cons (.refl _) (.cons (.refl _) (.cons .qc (.cons .qc .nil))))))) (.cons (.refl _) (.cons (.refl _) .nil))))) .nil) (At.keep (ts := [0, 1, 2, 7, 13, 14, 79]) (ids := [90000, 90001, 90002]) rfl rfl ?_)
         refine At.thenC ?_
         refine W.cond rfl (fun hb18 => ?_) (fun hb18 => ?_)
         · have H := of_true H hb18
           refine W.seq ?_
           obtain ⟨hc19, H⟩ := of_must H
           refine W.region env [] [] rfl rfl rfl (.cons (⟨by first | rfl | (simp; done) | omega | (simp; omega), hc19⟩) (.cons (⟨by first | rfl | (simp; done) | omega | (simp; omega), (by have := hc19; first | omega | (simp only [List.length_set]; omega) | (simp only [Int.toNat_natCast] at *; omega) | (simp at this ⊢; omega))⟩) .nil)) .nil (At.keep (ts := []) (ids := [90000, 90001, 90002]) rfl rfl ?_)
           refine At.convM (.cons (.refl _) (.cons (y := bufL 3 1 enc_Int (y14.2.Of.set i1 p1)) (BSim.seg (Seg.set (Seg.refl enc_Int _) p1 rfl)) (.cons (.refl _) .nil))) ?_
           refine At.thenC ?_
           refine W.rg env [6] [90000, 90001, 90002] ?_
           refine W.ret ?_
           refine At.rinb ?_
           refine At.rthen ?_
           refine At.rthen ?_
           refine At.rinb ?_
           refine At.rthen ?_
           cases H
           exact At.retL env.ty [90000, 90001, 90002] rfl rfl rfl rfl (.cons (BSim.cells (.cons (.refl _) (.cons (.refl _) (.cons (.refl _) (.cons (.refl _) (.cons .qc (.cons .qc .nil))))))) (.cons (.refl _) (.cons (.refl _) .nil))) (.refl _) hval hdom hent rfl rfl
         · have H := of_false H hb18
           refine W.skip ?_
           refine At.inb ?_
           refine At.thenK (At.keep (ts := [0, 1, 2, 13, 14]) (ids := [90000, 90001, 90002]) rfl rfl ?_)
           exact At.conv (.cons .q (.cons .qi (.cons .q (.cons .qi (.cons .qi .nil))))) (.cons (BSim.cells (.cons .q (.cons .q (.cons .q (.cons .q (.cons .qc (.cons .qc .nil))))))) (.cons .q (.cons .q .nil))) (hK3 (y14.2.Crew.Tasks, y14.2.Crew.Travel, y14.2.Crew.Hands, y14.2.Rounds, y14.2.Of, y14.2.Seen) H)
   · have H := H2 (by have := of_decide_eq_false hb2; omega)
     refine W.exit ?_
     refine At.xthen ?_
     refine At.xthen ?_
     refine At.xhere ?_
     refine At.thenC ?_
     refine W.rg env [6] [90000, 90001, 90002] ?_
     refine W.ret ?_
     cases H
     exact At.retL env.ty [90000, 90001, 90002] rfl rfl rfl rfl (.cons (BSim.cells (.cons (.refl _) (.cons (.refl _) (.cons (.refl _) (.cons (.refl _) (.cons .qc (.cons .qc .nil))))))) (.cons (.refl _) (.cons (.refl _) .nil))) (.refl _) hval hdom hent rfl rfl
theorem c_gasolierref04_can (fuel : Nat) (p0 : Crew) (p1 : (List (List Int))) (p2 : (List Bool)) {r : Bool} (H : gasolierref04_can fuel p0 p1 p2 = some r) : Ctr Tryz.prog 47 [.agg [roL 4 enc_Task p0.Tasks, roL 1 enc_ListRange p0.Travel, roL 3 enc_Hand p0.Hands], roL 1 enc_ListInt p1, roL 1 enc_Bool p2] (.bool (r)) := by
 unfold gasolierref04_can at H
 refine Ctr.of_body (N := 43) Tryz.func47 (by kernel_rfl) (c := _) rfl Tryz.ntmps47 rfl (fun w0 h0 hval => ?_)
 refine W.rg env [1, 2, 3] [3] ?_
 refine W.seq ?_
 obtain ⟨hc1, H⟩ := of_must H
 refine W.region env [] [] rfl rfl (by first | rfl | kernel_rfl) (.cons hc1 .nil) .nil (At.keep (ts := [1, 2, 3, 7]) (ids := [3, 7, 15]) rfl rfl ?_)
 refine At.convM (.cons (.refl _) (.cons (.refl _) (.cons (y := bufL 3 1 enc_Int (List.replicate (((p0.Hands.length : Nat) : Int)).toNat (0 : Int))) (BSim.seg (Seg.made (f := enc_Int) 0 rfl)) .nil))) ?_
 refine At.thenC ?_
 refine W.seq ?_
 refine W.sr env [] [] [1, 2, 3, 7, 19, 20] [3, 7, 15] rfl rfl rfl (.cons (by first | rfl | (simp; done) | omega | (simp; omega)) .nil) .nil ?_
 refine W.block ?_
 refine At.keep (ts := [1, 2, 3, 7, 19, 20]) (ids := [3, 7, 15]) rfl rfl ?_
 obtain ⟨hn2, H⟩ := of_must H
 refine W.rangeGo H (fun i2 (s2 : (List Int)) => [(1, roL 1 enc_ListInt p1), (2, roL 1 enc_Bool p2), (3, .lp 3 0), (7, .lp 7 0), (19, .int .i64 ((((List.replicate (((p0.Hands.length : Nat) : Int)).toNat (0 : Int)).length : Nat) : Int))), (20, .int .i64 ((i2 : Int)))]) (fun i2 (s2 : (List Int)) => [(3, .cells [roL 4 enc_Task p0.Tasks, roL 1 enc_ListRange p0.Travel, roL 3 enc_Hand p0.Hands]), (7, .cells [roL 4 enc_Task p0.Tasks, roL 1 enc_ListRange p0.Travel, roL 3 enc_Hand p0.Hands, roL 1 enc_ListInt p1, .buf 15 (s2).length, .nilS]), (15, bufL 3 1 enc_Int s2)]) (.cons .q (.cons .q (.cons .q (.cons .q (.cons .qi (.cons .qi .nil)))))) (.cons .q (.cons (BSim.cells (.cons .q (.cons .q (.cons .q (.cons .q (.cons .qc (.cons .q .nil))))))) (.cons .q .nil))) (fun k2 i2 s2 hle2 H1 H2 K0 hK2 => ?_)
 refine W.rg env [1, 2, 3, 7, 19, 20, 21] [3, 7, 15] ?_
 refine W.seq ?_
 refine W.cond rfl (fun hb3 => ?_) (fun hb3 => ?_)
 · have hi2 : i2 < (List.replicate (((p0.Hands.length : Nat) : Int)).toNat (0 : Int)).length := by have := of_decide_eq_true hb3; omega
   have H := H1 hi2
   refine W.skip ?_
   refine At.thenC ?_
   refine W.seq ?_
   refine W.block ?_
   refine W.rg env [1, 2, 3, 7, 8, 19, 20] [3, 7, 15] ?_
   obtain ⟨hc4, H⟩ := of_must H
   refine W.region env [] [] rfl rfl rfl (.cons (⟨by first | rfl | (simp; done) | omega | (simp; omega), hc4⟩) (.cons (⟨by first | rfl | (simp; done) | omega | (simp; omega), (by have := hc4; first | omega | (simp only [List.length_set]; omega) | (simp only [Int.toNat_natCast] at *; omega) | (simp at this ⊢; omega))⟩) .nil)) .nil (At.keep (ts := [1, 2, 3, 7, 19, 20]) (ids := [3, 7, 15]) rfl rfl ?_)
   refine At.convM (.cons (.refl _) (.cons (.refl _) (.cons (y := bufL 3 1 enc_Int (s2.set i2 (-1))) (BSim.seg (Seg.set (Seg.refl enc_Int _) (-1) rfl)) .nil))) ?_
   refine At.inb ?_
   refine At.thenC ?_
   refine W.region env [] [] rfl rfl rfl (.cons (by unfold inI; have := hn2; (try unfold maxLen at this); omega) .nil) .nil (At.keep (ts := [1, 2, 3, 7, 19, 20]) (ids := [3, 7, 15]) rfl rfl ?_)
   refine At.thenK (At.keep (ts := [1, 2, 3, 7, 19, 20]) (ids := [3, 7, 15]) rfl rfl ?_)
   exact At.conv (.cons .q (.cons .q (.cons .q (.cons .q (.cons .qi (.cons .qi .nil)))))) (.cons .q (.cons (BSim.cells (.cons .q (.cons .q (.cons .q (.cons .q (.cons .qc (.cons .q .nil))))))) (.cons .q .nil))) (hK2 hi2 (s2.set i2 (-1)) H)
 · have H := H2 (by have := of_decide_eq_false hb3; omega)
   refine W.exit ?_
   refine At.xthen ?_
   refine At.xthen ?_
   refine At.xhere ?_
   refine At.thenC ?_
   refine W.seq ?_
   refine W.rg env [2, 3, 7, 29, 30] [3, 7, 15] ?_
   refine W.block ?_
   refine At.keep (ts := [2, 3, 7, 29, 30]) (ids := [3, 7, 15]) rfl rfl ?_
   obtain ⟨hn5, H⟩ := of_must H
   refine W.rangeGo H (fun i5 (s5 : (List Int) × (List Task) × (List (List Range)) × (List Hand) × (List (List Int))) => [(2, roL 1 enc_Bool p2), (3, .lp 3 0), (7, .lp 7 0), (29, .int .i64 (((p1.length : Nat) : Int))), (30, .int .i64 ((i5 : Int)))]) (fun i5 (s5 : (List Int) × (List Task) × (List (List Range)) × (List Hand) × (List (List Int))) => [(3, .cells [roL 4 enc_Task p0.Tasks, roL 1 enc_ListRange p0.Travel, roL 3 enc_Hand p0.Hands]), (7, .cells [roL 4 enc_Task s5.2.1, roL 1 enc_ListRange s5.2.2.1, roL 3 enc_Hand s5.2.2.2.1, roL 1 enc_ListInt s5.2.2.2.2, .buf 15 (s5.1).length, .any]), (15, bufL 3 1 enc_Int s5.1)]) (.cons .q (.cons .q (.cons .q (.cons .qi (.cons .qi .nil))))) (.cons .q (.cons (BSim.cells (.cons .q (.cons .q (.cons .q (.cons .q (.cons .qc (.cons (Sim.any _) .nil))))))) (.cons .q .nil))) (fun k5 i5 s5 hle5 H1 H2 K0 hK5 => ?_)
   refine W.rg env [2, 3, 7, 29, 30, 31] [3, 7, 15] ?_
   refine W.seq ?_
   refine W.cond rfl (fun hb6 => ?_) (fun hb6 => ?_)
   · have hi5 : i5 < p1.length := by have := of_decide_eq_true hb6; omega
     have H := H1 hi5
     refine W.skip ?_
     refine At.thenC ?_
     refine W.seq ?_
     refine W.block ?_
     refine W.rg env [2, 3, 7, 9, 29, 30] [3, 7, 15] ?_
     refine W.seq ?_
     obtain ⟨hc7, H⟩ := of_must H
     refine W.region env [] [] rfl rfl rfl (.cons hc7 .nil) .nil (At.keep (ts := [2, 3, 7, 9, 29, 30]) (ids := [3, 7, 15, 36]) rfl rfl ?_)
     refine At.convM (.cons (.refl _) (.cons (.refl _) (.cons (.refl _) (.cons (y := bufL 4 1 enc_Bool (List.replicate (((p0.Hands.length : Nat) : Int)).toNat (false : Bool))) (BSim.seg (Seg.made (f := enc_Bool) false rfl)) .nil)))) ?_
     refine At.thenC ?_
     refine W.seq ?_
     obtain ⟨y8, hy9, H⟩ := of_bindO H
     obtain ⟨hc10, H⟩ := of_must H
     obtain ⟨hc11, H⟩ := of_must H
     refine W.region env [] [⟨.bool (y8.1), [(7, .cells [roL 4 enc_Task y8.2.Crew.Tasks, roL 1 enc_ListRange y8.2.Crew.Travel, roL 3 enc_Hand y8.2.Crew.Hands, roL 1 enc_ListInt y8.2.Rounds, .buf 15 (y8.2.Of).length, .buf 36 (y8.2.Seen).length]), (15, bufL 3 1 enc_Int y8.2.Of), (36, bufL 4 1 enc_Bool y8.2.Seen)], 0, [7, 15, 36]⟩] rfl rfl (by kernel_rfl) .nil (.free (CtrO.sim (CtrO.ren (cl_gasolierref04_Job__given_l fuel fuel (⟨(⟨s5.2.1, s5.2.2.1, s5.2.2.2.1⟩ : Crew), s5.2.2.2.2, s5.1, (List.replicate (((p0.Hands.length : Nat) : Int)).toNat (false : Bool))⟩ : gasolierref04_Job) (i5 : Int) p2 hy9) [(90000, 7), (90001, 15), (90002, 36)]) (.cons (.refl _) (.cons (.refl _) (.cons (.refl _) .nil))) (.cons (BSim.cells (.cons (.refl _) (.cons (.refl _) (.cons (.refl _) (.cons (.refl _) (.cons .qc (.cons .qc .nil))))))) (.cons (.refl _) (.cons (.refl _) .nil)))) .nil) (At.keep (ts := [2, 3, 7, 29, 30, 41]) (ids := [3, 7, 15, 36]) rfl rfl ?_)
     refine At.thenC ?_
     refine W.cond rfl (fun hb12 => ?_) (fun hb12 => ?_)
     · have H := of_true H hb12
       refine W.rg env [6] [] ?_
       refine W.ret ?_
       refine At.rinb ?_
       refine At.rthen ?_
       refine At.rthen ?_
       refine At.rinb ?_
       refine At.rthen ?_
       cases H
       exact At.ret env.ty rfl rfl (fun q hq => by cases hq) (.refl _) hval
     · have H := of_false H hb12
       refine W.skip ?_
       refine At.inb ?_
       refine At.thenC ?_
       refine W.region env [] [] rfl rfl rfl (.cons (by unfold inI; have := hn5; (try unfold maxLen at this); omega) .nil) .nil (At.keep (ts := [2, 3, 7, 29, 30]) (ids := [3, 7, 15, 36]) rfl rfl ?_)
       refine At.convM (.cons (.refl _) (.cons (BSim.cells (.cons (.refl _) (.cons (.refl _) (.cons (.refl _) (.cons (.refl _) (.cons (.refl _) (.cons (Sim.any _) .nil))))))) (.cons (.refl _) (.cons (.refl _) .nil)))) ?_
       refine At.thenK (At.keep (ts := [2, 3, 7, 29, 30]) (ids := [3, 7, 15]) rfl rfl ?_)
       exact At.conv (.cons .q (.cons .q (.cons .q (.cons .qi (.cons .qi .nil))))) (.cons .q (.cons (BSim.cells (.cons .q (.cons .q (.cons .q (.cons .q (.cons .qc (.cons (Sim.any _) .nil))))))) (.cons .q .nil))) (hK5 hi5 (y8.2.Of, y8.2.Crew.Tasks, y8.2.Crew.Travel, y8.2.Crew.Hands, y8.2.Rounds) H)
   · have H := H2 (by have := of_decide_eq_false hb6; omega)
     refine W.exit ?_
     refine At.xthen ?_
     refine At.xthen ?_
     refine At.xhere ?_
     refine At.thenC ?_
     refine W.rg env [6] [] ?_
     refine W.ret ?_
     cases H
     exact At.ret env.ty rfl rfl (fun q hq => by cases hq) (.refl _) hval
theorem co_gasolierref04_all (p0 : Crew) {r : (List Bool)} (H : gasolierref04_all p0 = some r) : CtrO Tryz.prog 46 [.agg [roL 4 enc_Task p0.Tasks, roL 1 enc_ListRange p0.Travel, roL 3 enc_Hand p0.Hands]] [] (.buf 900 r.length) [(900, bufL 4 1 enc_Bool r)] := by
 unfold gasolierref04_all at H
 refine CtrO.of_body (N := 19) Tryz.func46 (by kernel_rfl) (c := _) rfl Tryz.ntmps46 rfl (fun w0 h0 ρb hval hdom => ?_)
 refine W.rg env [1] [1] ?_
 refine W.seq ?_
 obtain ⟨hc1, H⟩ := of_must H
 refine W.region env [] [] rfl rfl rfl (.cons hc1 .nil) .nil (At.keep (ts := [3]) (ids := [8]) rfl rfl ?_)
 refine At.convM (.cons (y := bufL 4 1 enc_Bool (List.replicate (((p0.Hands.length : Nat) : Int)).toNat (false : Bool))) (BSim.seg (Seg.made (f := enc_Bool) false rfl)) .nil) ?_
 refine At.thenC ?_
 refine W.seq ?_
 refine W.sr env [] [] [3, 10, 11] [8] rfl rfl rfl (.cons (by first | rfl | (simp; done) | omega | (simp; omega)) .nil) .nil ?_
 refine W.block ?_
 refine At.keep (ts := [3, 10, 11]) (ids := [8]) rfl rfl ?_
 obtain ⟨hn2, H⟩ := of_must H
 refine W.rangeGo H (fun i2 (s2 : (List Bool)) => [(3, .buf 8 (s2).length), (10, .int .i64 ((((List.replicate (((p0.Hands.length : Nat) : Int)).toNat (false : Bool)).length : Nat) : Int))), (11, .int .i64 ((i2 : Int)))]) (fun i2 (s2 : (List Bool)) => [(8, bufL 4 1 enc_Bool s2)]) (.cons .qb (.cons .qi (.cons .qi .nil))) (.cons .q .nil) (fun k2 i2 s2 hle2 H1 H2 K0 hK2 => ?_)
 refine W.rg env [3, 10, 11, 12] [8] ?_
 refine W.seq ?_
 refine W.cond rfl (fun hb3 => ?_) (fun hb3 => ?_)
 · have hi2 : i2 < (List.replicate (((p0.Hands.length : Nat) : Int)).toNat (false : Bool)).length := by have := of_decide_eq_true hb3; omega
   have H := H1 hi2
   refine W.skip ?_
   refine At.thenC ?_
   refine W.seq ?_
   refine W.block ?_
   refine W.rg env [3, 4, 10, 11] [8] ?_
   obtain ⟨hc4, H⟩ := of_must H
   refine W.region env [] [] rfl rfl rfl (.cons (⟨by first | rfl | (simp; done) | omega | (simp; omega), hc4⟩) (.cons (⟨by first | rfl | (simp; done) | omega | (simp; omega), (by have := hc4; first | omega | (simp only [List.length_set]; omega) | (simp only [Int.toNat_natCast] at *; omega) | (simp at this ⊢; omega))⟩) .nil)) .nil (At.keep (ts := [3, 10, 11]) (ids := [8]) rfl rfl ?_)
   refine At.convM (.cons (y := bufL 4 1 enc_Bool (s2.set i2 true)) (BSim.seg (Seg.set (Seg.refl enc_Bool _) true rfl)) .nil) ?_
   refine At.inb ?_
   refine At.thenC ?_
   refine W.region env [] [] rfl rfl rfl (.cons (by unfold inI; have := hn2; (try unfold maxLen at this); omega) .nil) .nil (At.keep (ts := [3, 10, 11]) (ids := [8]) rfl rfl ?_)
   refine At.thenK (At.keep (ts := [3, 10, 11]) (ids := [8]) rfl rfl ?_)
   exact At.conv (.cons .qb (.cons .qi (.cons .qi .nil))) (.cons .q .nil) (hK2 hi2 (s2.set i2 true) H)
 · have H := H2 (by have := of_decide_eq_false hb3; omega)
   refine W.exit ?_
   refine At.xthen ?_
   refine At.xthen ?_
   refine At.xhere ?_
   refine At.thenC ?_
   refine W.rg env [2] [8] ?_
   refine W.ret ?_
   cases H
   exact At.retK env.ty [8] 892 rfl rfl rfl rfl (.cons (.refl _) .nil) (.of_eq (by refine bufEq ?_; first | (simp [copyAt]; done) | omega | (simp [copyAt]; omega) | rfl)) hval hdom rfl
theorem c_gasolierref04_Assign (fuel : Nat) (p0 : Crew) (p1 : (List (List Int))) {r : ((List Int) × Int)} (H : gasolierref04_Assign fuel p0 p1 = some r) : Ctr Tryz.prog 8 [.agg [roL 4 enc_Task p0.Tasks, roL 1 enc_ListRange p0.Travel, roL 3 enc_Hand p0.Hands], roL 1 enc_ListInt p1] (.tup [roL 1 enc_Int r.1, .int .i64 (r.2)]) := by
 unfold gasolierref04_Assign at H
 refine Ctr.of_body (N := 83) Tryz.func8 (by kernel_rfl) (c := _) rfl Tryz.ntmps8 rfl (fun w0 h0 hval => ?_)
 refine W.rg env [1, 2] [2] ?_
 refine W.seq ?_
 refine W.seq ?_
 obtain ⟨y1, hy2, H⟩ := of_bindO H
 refine W.region env [] [⟨.int .i64 (y1), [], 0, []⟩] rfl rfl rfl .nil (.free (c_gasolierref04_CheckRounds p0 p1 hy2) .nil) (At.keep (ts := [1, 2, 6]) (ids := [2]) rfl rfl ?_)
 refine At.thenC ?_
 refine W.rg env [1, 2, 6, 17] [2] ?_
 refine W.cond rfl (fun hb3 => ?_) (fun hb3 => ?_)
 · have H := of_true H hb3
   refine W.rg env [4, 5] [] ?_
   refine W.ret ?_
   refine At.rthen ?_
   cases H
   exact At.ret env.ty rfl rfl (fun q hq => by cases hq) (Sim.tupL (.cons (Sim.nil _ _) (.cons (.refl _) .nil))) hval
 · have H := of_false H hb3
   refine W.skip ?_
   refine At.thenC ?_
   refine W.seq ?_
   obtain ⟨y4, hy5, H⟩ := of_bindO H
   refine W.region env [] [⟨.buf 900 y4.length, [(900, bufL 4 1 enc_Bool y4)], 21000, []⟩] rfl rfl (by kernel_rfl) .nil (.free ((Ctr.ofO (co_gasolierref04_all p0 hy5))) .nil) (At.keep (ts := [1, 2, 7]) (ids := [2, 21900]) rfl rfl ?_)
   refine At.thenC ?_
   refine W.seq ?_
   refine W.seq ?_
   obtain ⟨y6, hy7, H⟩ := of_bindO H
   refine W.region env [] [⟨.bool (y6), [], 0, []⟩] rfl rfl rfl (.cons (by first | rfl | (simp; done) | omega | (simp; omega)) .nil) (.free (c_gasolierref04_can fuel p0 p1 y4 hy7) .nil) (At.keep (ts := [1, 2, 7, 25]) (ids := [2, 21900]) rfl rfl ?_)
   refine At.thenC ?_
   refine W.cond rfl (fun hb8 => ?_) (fun hb8 => ?_)
   · have H := of_true H hb8
     refine W.rg env [4, 5] [] ?_
     refine W.ret ?_
     refine At.rthen ?_
     cases H
     exact At.ret env.ty rfl rfl (fun q hq => by cases hq) (Sim.tupL (.cons (Sim.nil _ _) (.cons (.refl _) .nil))) hval
   · have H := of_false H hb8
     refine W.skip ?_
     refine At.thenC ?_
     refine W.rg env [1, 2, 7, 8] [2, 21900] ?_
     refine W.seq ?_
     refine W.rg env [1, 2, 7, 8, 26, 27, 28] [2, 21900] ?_
     refine W.block ?_
     refine At.nilOwn 8 508 3 1 (e := fun i => enc_Int (([] : List Int).getD i default)) rfl rfl ?_
     refine At.keep (ts := [1, 2, 7, 8, 26, 27, 28]) (ids := [2, 508, 21900]) rfl rfl ?_
     refine W.len (t := 26) rfl (fun (hn9 : p1.length ≤ maxLen) => ?_)
     refine W.rangeGo H (fun i9 (s9 : (List Bool) × (List Int)) => [(1, roL 1 enc_ListInt p1), (2, .lp 2 0), (7, .buf 21900 (s9.1).length), (8, .buf 508 (s9.2).length), (26, roL 1 enc_ListInt p1), (27, .int .i64 (((p1.length : Nat) : Int))), (28, .int .i64 ((i9 : Int)))]) (fun i9 (s9 : (List Bool) × (List Int)) => [(2, .cells [roL 4 enc_Task p0.Tasks, roL 1 enc_ListRange p0.Travel, roL 3 enc_Hand p0.Hands]), (508, bufL 3 1 enc_Int s9.2), (21900, bufL 4 1 enc_Bool s9.1)]) (.cons .q (.cons .q (.cons .qb (.cons .qb (.cons .q (.cons .qi (.cons .qi .nil))))))) (.cons .q (.cons .q (.cons .q .nil))) (fun k9 i9 s9 hle9 H1 H2 K0 hK9 => ?_)
     refine W.rg env [1, 2, 7, 8, 26, 27, 28, 29] [2, 508, 21900] ?_
     refine W.seq ?_
     refine W.cond rfl (fun hb10 => ?_) (fun hb10 => ?_)
     · have hi9 : i9 < p1.length := by have := of_decide_eq_true hb10; omega
       have H := H1 hi9
       refine W.skip ?_
       refine At.thenC ?_
       refine W.seq ?_
       refine W.block ?_
       refine W.sr env [] [] [1, 2, 7, 8, 9, 10, 26, 27, 28] [2, 508, 21900] rfl rfl rfl (.cons (⟨by omega, by omega⟩ : 0 ≤ (i9 : Int) ∧ (i9 : Int) < ((p1.length : Nat) : Int)) .nil) .nil ?_
       refine W.rg env [1, 2, 7, 8, 9, 10, 11, 26, 27, 28] [2, 508, 21900] ?_
       refine W.rg env [1, 2, 7, 8, 9, 10, 11, 26, 27, 28, 35, 36] [2, 508, 21900] ?_
       refine W.block ?_
       refine At.keep (ts := [1, 2, 7, 8, 9, 10, 11, 26, 27, 28, 35, 36]) (ids := [2, 508, 21900]) rfl rfl ?_
       obtain ⟨hn11, H⟩ := of_must H
       refine W.rangeGo H (fun i11 (s11 : Bool × (List Bool) × (List Int)) => [(1, roL 1 enc_ListInt p1), (2, .lp 2 0), (7, .buf 21900 (s11.2.1).length), (8, .buf 508 (s11.2.2).length), (9, .int .i64 ((i9 : Int))), (10, roL 1 enc_Int (p1.getD i9 default)), (11, .bool (s11.1)), (26, roL 1 enc_ListInt p1), (27, .int .i64 (((p1.length : Nat) : Int))), (28, .int .i64 ((i9 : Int))), (35, .int .i64 (((p0.Hands.length : Nat) : Int))), (36, .int .i64 ((i11 : Int)))]) (fun i11 (s11 : Bool × (List Bool) × (List Int)) => [(2, .cells [roL 4 enc_Task p0.Tasks, roL 1 enc_ListRange p0.Travel, roL 3 enc_Hand p0.Hands]), (508, bufL 3 1 enc_Int s11.2.2), (21900, bufL 4 1 enc_Bool s11.2.1)]) (.cons .q (.cons .q (.cons .qb (.cons .qb (.cons .qi (.cons .q (.cons .q (.cons .q (.cons .qi (.cons .qi (.cons .qi (.cons .qi .nil)))))))))))) (.cons .q (.cons .q (.cons .q .nil))) (fun k11 i11 s11 hle11 H1 H2 K0 hK11 => ?_)
       refine W.rg env [1, 2, 7, 8, 9, 10, 11, 26, 27, 28, 35, 36, 37] [2, 508, 21900] ?_
       refine W.seq ?_
       refine W.cond rfl (fun hb12 => ?_) (fun hb12 => ?_)
       · have hi11 : i11 < p0.Hands.length := by have := of_decide_eq_true hb12; omega
         have H := H1 hi11
         refine W.skip ?_
         refine At.thenC ?_
         refine W.seq ?_
         refine W.block ?_
         refine W.rg env [1, 2, 7, 8, 9, 10, 11, 12, 26, 27, 28, 35, 36] [2, 508, 21900] ?_
         refine W.seq ?_
         refine W.seq ?_
         obtain ⟨hc13, H⟩ := of_must H
         obtain ⟨y14, hy15, H⟩ := of_bindO H
         refine W.region env [] [⟨.bool (y14), [], 0, []⟩] rfl rfl (by kernel_rfl) (.cons (fun hW => ⟨by first | rfl | (simp; done) | omega | (simp; omega), hc13 hW⟩) (.cons (fun h => h) (.cons (fun h => h) (.cons (fun hW => (⟨by first | rfl | (simp; done) | omega | (simp; omega), (by have := hc13 hW; first | omega | (simp only [List.length_set]; omega) | (simp only [Int.toNat_natCast] at *; omega) | (simp at this ⊢; omega))⟩)) (.cons (fun h => h) (.cons (fun h => h) (.cons (fun h => by rw [h]; rfl) (.cons (fun h => h) (.cons (fun _ => (⟨by omega, by omega⟩ : 0 ≤ (i11 : Int) ∧ (i11 : Int) < ((p0.Hands.length : Nat) : Int))) (.cons (fun h => h) (.cons (fun h => h) (.cons (fun h => h) (.cons (fun h => h) (.cons (fun h => h) (.cons (fun h => h) (.cons (fun h => h) (.cons (fun h => by rw [h]; rfl) .nil))))))))))))))))) (.on (fun hW => c_gasolierref04_able p0 (p0.Hands.getD i11 default) (p1.getD i9 default) (of_true hy15 hW)) .nil) (At.keep (ts := [1, 2, 7, 8, 9, 10, 11, 12, 26, 27, 28, 35, 36, 57]) (ids := [2, 508, 21900]) rfl rfl ?_)
         refine At.thenC ?_
         refine W.cond rfl (fun hb16 => ?_) (fun hb16 => ?_)
         · have H := of_true H hb16
           refine W.exit ?_
           refine At.xthen ?_
           refine At.xhere ?_
           refine At.thenC ?_
           refine W.region env [] [] rfl rfl rfl (.cons (by unfold inI; have := hn11; (try unfold maxLen at this); omega) .nil) .nil (At.keep (ts := [1, 2, 7, 8, 9, 10, 11, 26, 27, 28, 35, 36]) (ids := [2, 508, 21900]) rfl rfl ?_)
           refine At.thenK (At.keep (ts := [1, 2, 7, 8, 9, 10, 11, 26, 27, 28, 35, 36]) (ids := [2, 508, 21900]) rfl rfl ?_)
           exact At.conv (.cons .q (.cons .q (.cons .qb (.cons .qb (.cons .qi (.cons .q (.cons .q (.cons .q (.cons .qi (.cons .qi (.cons .qi (.cons .qi .nil)))))))))))) (.cons .q (.cons .q (.cons .q .nil))) (hK11 hi11 (s11.1, s11.2.1, s11.2.2) H)
         · have H := of_false H hb16
           refine W.skip ?_
           refine At.thenC ?_
           refine W.seq ?_
           obtain ⟨hc17, H⟩ := of_must H
           refine W.region env [] [] rfl rfl rfl (.cons (⟨by first | rfl | (simp; done) | omega | (simp; omega), hc17⟩) (.cons (⟨by first | rfl | (simp; done) | omega | (simp; omega), (by have := hc17; first | omega | (simp only [List.length_set]; omega) | (simp only [Int.toNat_natCast] at *; omega) | (simp at this ⊢; omega))⟩) .nil)) .nil (At.keep (ts := [1, 2, 7, 8, 9, 10, 11, 12, 26, 27, 28, 35, 36]) (ids := [2, 508, 21900]) rfl rfl ?_)
           refine At.convM (.cons (.refl _) (.cons (.refl _) (.cons (y := bufL 4 1 enc_Bool (s11.2.1.set i11 false)) (BSim.seg (Seg.set (Seg.refl enc_Bool _) false rfl)) .nil))) ?_
           refine At.thenC ?_
           refine W.seq ?_
           obtain ⟨hc18, H⟩ := of_must H
           obtain ⟨y19, hy20, H⟩ := of_bindO H
           refine W.region env [] [⟨.bool (y19), [], 0, []⟩] rfl rfl (by kernel_rfl) (.cons (by unfold inI; have := hn9; (try unfold maxLen at this); omega) (.cons hc18 (.cons (by first | rfl | (simp; done) | omega | (simp; omega)) .nil))) (.free (Ctr.sim (.cons (.refl _) (.cons (Sim.seg (Seg.drop enc_ListInt p1 ((((i9 : Int) + 1)).toNat))) (.cons (.refl _) .nil))) (c_gasolierref04_can fuel p0 (p1.drop (((i9 : Int) + 1)).toNat) (s11.2.1.set i11 false) hy20)) .nil) (At.keep (ts := [1, 2, 7, 8, 9, 10, 11, 12, 26, 27, 28, 35, 36, 67]) (ids := [2, 508, 21900]) rfl rfl ?_)
           refine At.thenC ?_
           refine W.cond rfl (fun hb21 => ?_) (fun hb21 => ?_)
           · have H := of_true H hb21
             refine W.seq ?_
             obtain ⟨hc22, H⟩ := of_must H
             refine W.region env [] [] rfl rfl rfl (.cons (⟨by omega, by omega⟩ : 0 ≤ (i11 : Int) ∧ (i11 : Int) < ((p0.Hands.length : Nat) : Int)) (.cons (⟨by first | rfl | (simp; done) | omega | (simp; omega), by have := hc22; first | simpa using this | (unfold room at this ⊢; simp at this ⊢; omega)⟩) .nil)) .nil (At.keep (ts := [1, 2, 7, 8, 9, 10, 26, 27, 28, 35, 36]) (ids := [2, 508, 21900]) rfl rfl ?_)
             refine At.convM (.cons (.refl _) (.cons (y := bufL 3 1 enc_Int (s11.2.2 ++ ([(p0.Hands.getD i11 default).Id] : List Int))) (BSim.seg (Seg.push (Seg.refl enc_Int _) (Seg.lit (f := enc_Int) (sz := 1) ([(p0.Hands.getD i11 default).Id] : List Int) rfl rfl (fun _ => rfl)))) (.cons (.refl _) .nil))) ?_
             refine At.thenC ?_
             refine W.region env [] [] rfl rfl rfl .nil .nil (At.keep (ts := [1, 2, 7, 8, 9, 10, 11, 26, 27, 28, 35, 36]) (ids := [2, 508, 21900]) rfl rfl ?_)
             refine At.inb ?_
             refine At.thenC ?_
             refine W.region env [] [] rfl rfl rfl (.cons (by unfold inI; have := hn11; (try unfold maxLen at this); omega) .nil) .nil (At.keep (ts := [1, 2, 7, 8, 9, 10, 11, 26, 27, 28, 35, 36]) (ids := [2, 508, 21900]) rfl rfl ?_)
             refine At.thenK (At.keep (ts := [1, 2, 7, 8, 9, 10, 11, 26, 27, 28, 35, 36]) (ids := [2, 508, 21900]) rfl rfl ?_)
             exact At.conv (.cons .q (.cons .q (.cons .qb (.cons .qb (.cons .qi (.cons .q (.cons .q (.cons .q (.cons .qi (.cons .qi (.cons .qi (.cons .qi .nil)))))))))))) (.cons .q (.cons .q (.cons .q .nil))) (hK11 hi11 (true, (s11.2.1.set i11 false), (s11.2.2 ++ ([(p0.Hands.getD i11 default).Id] : List Int))) H)
           · have H := of_false H hb21
             obtain ⟨hc23, H⟩ := of_must H
             refine W.region env [] [] rfl rfl rfl (.cons (⟨by first | rfl | (simp; done) | omega | (simp; omega), hc23⟩) (.cons (⟨by first | rfl | (simp; done) | omega | (simp; omega), (by have := hc23; first | omega | (simp only [List.length_set]; omega) | (simp only [Int.toNat_natCast] at *; omega) | (simp at this ⊢; omega))⟩) .nil)) .nil (At.keep (ts := [1, 2, 7, 8, 9, 10, 11, 26, 27, 28, 35, 36]) (ids := [2, 508, 21900]) rfl rfl ?_)
             refine At.convM (.cons (.refl _) (.cons (.refl _) (.cons (y := bufL 4 1 enc_Bool ((s11.2.1.set i11 false).set i11 true)) (BSim.seg (Seg.set (Seg.refl enc_Bool _) true rfl)) .nil))) ?_
             refine At.inb ?_
             refine At.thenC ?_
             refine W.region env [] [] rfl rfl rfl (.cons (by unfold inI; have := hn11; (try unfold maxLen at this); omega) .nil) .nil (At.keep (ts := [1, 2, 7, 8, 9, 10, 11, 26, 27, 28, 35, 36]) (ids := [2, 508, 21900]) rfl rfl ?_)
             refine At.thenK (At.keep (ts := [1, 2, 7, 8, 9, 10, 11, 26, 27, 28, 35, 36]) (ids := [2, 508, 21900]) rfl rfl ?_)
             exact At.conv (.cons .q (.cons .q (.cons .qb (.cons .qb (.cons .qi (.cons .q (.cons .q (.cons .q (.cons .qi (.cons .qi (.cons .qi (.cons .qi .nil)))))))))))) (.cons .q (.cons .q (.cons .q .nil))) (hK11 hi11 (s11.1, ((s11.2.1.set i11 false).set i11 true), s11.2.2) H)
       · have H := H2 (by have := of_decide_eq_false hb12; omega)
         refine W.exit ?_
         refine At.xthen ?_
         refine At.xthen ?_
         refine At.xhere ?_
         refine At.inb ?_
         refine At.thenC ?_
         refine W.region env [] [] rfl rfl rfl (.cons (by unfold inI; have := hn9; (try unfold maxLen at this); omega) .nil) .nil (At.keep (ts := [1, 2, 7, 8, 26, 27, 28]) (ids := [2, 508, 21900]) rfl rfl ?_)
         refine At.thenK (At.keep (ts := [1, 2, 7, 8, 26, 27, 28]) (ids := [2, 508, 21900]) rfl rfl ?_)
         exact At.conv (.cons .q (.cons .q (.cons .qb (.cons .qb (.cons .q (.cons .qi (.cons .qi .nil))))))) (.cons .q (.cons .q (.cons .q .nil))) (hK9 hi9 (s11.2.1, s11.2.2) H)
     · have H := H2 (by have := of_decide_eq_false hb10; omega)
       refine W.exit ?_
       refine At.xthen ?_
       refine At.xthen ?_
       refine At.xhere ?_
       refine At.thenC ?_
       refine W.rg env [4, 5] [508] ?_
       refine W.ret ?_
       cases H
       exact At.ret env.ty rfl rfl (fun q hq => by cases hq; exact (by first | rfl | (simp; done) | omega | (simp; omega))) (.refl _) hval
theorem c_slices_Clone_int (p0 : (List Int)) {r : (List Int)} (H : slices_Clone_int p0 = some r) : Ctr Tryz.prog 49 [roL 1 enc_Int p0] (roL 1 enc_Int r) := by
 unfold slices_Clone_int at H
 refine Ctr.of_body (N := 8) Tryz.func49 (by kernel_rfl) (c := _) rfl Tryz.ntmps49 rfl (fun w0 h0 hval => ?_)
 refine W.rg env [0] [] ?_
 refine W.seq ?_
 refine W.rg env [0, 4] [] ?_
 refine W.condNz rfl (fun hz => ?_) ?_
 · obtain rfl : p0 = [] := List.length_eq_zero_iff.1 hz
   obtain ⟨hc1, H⟩ := of_must H
   refine W.rg env [2] [] ?_
   refine W.ret ?_
   refine At.rthen ?_
   cases H
   exact At.ret env.ty rfl rfl (fun q hq => by cases hq) (Sim.nil _ _) hval
 · refine W.skip ?_
   refine At.thenC ?_
   refine W.seq ?_
   obtain ⟨hc1, H⟩ := of_must H
   refine W.region env [5] [] rfl rfl rfl (.cons (⟨by first | rfl | (simp; done) | omega | (simp; omega), by have := hc1; first | simpa using this | (unfold room at this ⊢; simp at this ⊢; omega)⟩) .nil) .nil (At.keep (ts := [2]) (ids := [5]) rfl rfl ?_)
   refine At.convM (.cons (y := bufL 3 1 enc_Int (([] : List Int) ++ p0)) (BSim.seg (Seg.push (Seg.lit (f := enc_Int) (sz := 1) ([] : List Int) rfl rfl (fun _ => rfl)) (Seg.refl enc_Int p0))) .nil) ?_
   refine At.thenC ?_
   refine W.ret ?_
   cases H
   exact At.ret env.ty rfl rfl (fun q hq => by cases hq; exact (by first | rfl | (simp; done) | omega | (simp; omega))) (.refl _) hval
theorem co_slices_Delete_int (p0 : (List Int)) (p1 : Int) (p2 : Int) {r : (List Int)} (H : slices_Delete_int p0 p1 p2 = some r) : CtrO Tryz.prog 48 [.buf 700 (p0).length, .int .i64 (p1), .int .i64 (p2)] [(700, bufL 3 1 enc_Int p0)] (.buf 900 r.length) [(900, bufL 3 1 enc_Int r)] := by
 unfold slices_Delete_int at H
 refine CtrO.of_body (N := 33) Tryz.func48 (by kernel_rfl) (c := _) rfl Tryz.ntmps48 rfl (fun w0 h0 ρb hval hdom => ?_)
 refine W.rg env [0, 1, 2] [700] ?_
 obtain ⟨hc1, H⟩ := of_must H
 refine W.sr env [] [] [0, 1, 2] [700] rfl rfl rfl (.cons (by first | rfl | (simp; done) | omega | (simp; omega)) (.cons (⟨by first | rfl | (simp; done) | omega | (simp; omega), hc1⟩) .nil)) .nil ?_
 refine W.seq ?_
 refine W.rg env [0, 1, 2, 16] [700] ?_
 refine W.cond rfl (fun hb2 => ?_) (fun hb2 => ?_)
 · have H := of_true H hb2
   refine W.rg env [6] [700] ?_
   refine W.ret ?_
   refine At.rthen ?_
   cases H
   exact At.retK env.ty [700] 200 rfl rfl rfl rfl (.cons (.refl _) .nil) (.of_eq (by refine bufEq ?_; first | (simp [copyAt]; done) | omega | (simp [copyAt]; omega) | rfl)) hval hdom rfl
 · have H := of_false H hb2
   refine W.skip ?_
   refine At.thenC ?_
   refine W.sr env [] [] [0, 1, 2, 7] [700] rfl rfl rfl (.cons (by first | rfl | (simp; done) | omega | (simp; omega)) .nil) .nil ?_
   refine W.seq ?_
   obtain ⟨hc3, H⟩ := of_must H
   obtain ⟨hc4, H⟩ := of_must H
   obtain ⟨hc5, H⟩ := of_must H
   refine W.region env [] [] rfl rfl (by first | rfl | kernel_rfl) (.cons (⟨by first | rfl | (simp; done) | omega | (simp; omega), hc3⟩) (.cons (⟨by first | rfl | (simp; done) | omega | (simp; omega), hc4⟩) (.cons (⟨rfl, rfl, by omega, by omega, by omega⟩) .nil))) .nil (At.keep (ts := [0, 7]) (ids := [26]) rfl rfl ?_)
   refine At.convM (.cons (y := bufkL 3 1 p0.length enc_Int (p0.take ((p1).toNat) ++ p0.drop ((p2).toNat))) (BSim.kseg (Seg.moved (f := enc_Int) (l := p0) ((p1).toNat) ((p2).toNat) (by omega) (by omega))) .nil) ?_
   refine At.thenC ?_
   refine W.seq ?_
   obtain ⟨hc6, H⟩ := of_must H
   refine W.region env [] [] rfl rfl rfl (.cons (by first | rfl | (simp; done) | omega | (simp; omega)) (.cons (⟨by first | rfl | (simp; done) | omega | (simp; omega), hc6⟩) (.cons (⟨by first | rfl | (simp; done) | omega | (simp; omega), by first | rfl | (simp; done) | omega | (simp; omega), by first | omega | (simp; omega)⟩) .nil))) .nil (At.keep (ts := [0]) (ids := [26]) rfl rfl ?_)
   refine At.convM (.cons (y := bufkL 3 1 p0.length enc_Int (p0.take ((p1).toNat) ++ p0.drop ((p2).toNat))) (BSim.kseg (Seg.refl enc_Int _)) .nil) ?_
   refine At.thenC ?_
   refine W.rg env [6] [26] ?_
   refine W.ret ?_
   cases H
   exact At.retK env.ty [26] 874 rfl rfl rfl rfl (.cons (.bufk (.refl _)) .nil) (.of_eq (by refine bufEq ?_; first | (simp [copyAt]; done) | omega | (simp [copyAt]; omega) | rfl)) hval hdom rfl
theorem co_slices_Clone_int (p0 : (List Int)) {r : (List Int)} (H : slices_Clone_int p0 = some r) : CtrO Tryz.prog 49 [roL 1 enc_Int p0] [] (.buf 900 r.length) [(900, bufL 3 1 enc_Int r)] := by
 unfold slices_Clone_int at H
 refine CtrO.of_body (N := 8) Tryz.func49 (by kernel_rfl) (c := _) rfl Tryz.ntmps49 rfl (fun w0 h0 ρb hval hdom => ?_)
 refine W.rg env [0] [] ?_
 refine W.seq ?_
 refine W.rg env [0, 4] [] ?_
 refine W.condNz rfl (fun hz => ?_) ?_
 · obtain rfl : p0 = [] := List.length_eq_zero_iff.1 hz
   obtain ⟨hc1, H⟩ := of_must H
   refine W.rg env [2] [] ?_
   refine W.ret ?_
   refine At.rthen ?_
   cases H
   refine At.nilOwn 2 800 3 1 (e := fun i => enc_Int (([] : List Int).getD i default)) rfl rfl ?_
   exact At.retK env.ty [800] 100 rfl rfl rfl rfl (.cons (.refl _) .nil) (.of_eq (by refine bufEq ?_; first | (simp [copyAt]; done) | omega | (simp [copyAt]; omega) | rfl)) hval hdom rfl
 · refine W.skip ?_
   refine At.thenC ?_
   refine W.seq ?_
   obtain ⟨hc1, H⟩ := of_must H
   refine W.region env [5] [] rfl rfl rfl (.cons (⟨by first | rfl | (simp; done) | omega | (simp; omega), by have := hc1; first | simpa using this | (unfold room at this ⊢; simp at this ⊢; omega)⟩) .nil) .nil (At.keep (ts := [2]) (ids := [5]) rfl rfl ?_)
   refine At.convM (.cons (y := bufL 3 1 enc_Int (([] : List Int) ++ p0)) (BSim.seg (Seg.push (Seg.lit (f := enc_Int) (sz := 1) ([] : List Int) rfl rfl (fun _ => rfl)) (Seg.refl enc_Int p0))) .nil) ?_
   refine At.thenC ?_
   refine W.ret ?_
   cases H
   exact At.retK env.ty [5] 895 rfl rfl rfl rfl (.cons (.refl _) .nil) (.of_eq (by refine bufEq ?_; first | (simp [copyAt]; done) | omega | (simp [copyAt]; omega) | rfl)) hval hdom rfl
theorem c_crew_Short (fuel : Nat) (p0 : Crew) (p1 : (List (List Int))) {r : ((List Int) × Int)} (H : crew_Short fuel p0 p1 = some r) : Ctr Tryz.prog 9 [.agg [roL 4 enc_Task p0.Tasks, roL 1 enc_ListRange p0.Travel, roL 3 enc_Hand p0.Hands], roL 1 enc_ListInt p1] (.tup [roL 1 enc_Int r.1, .int .i64 (r.2)]) := by
 unfold crew_Short at H
 refine Ctr.of_body (N := 52) Tryz.func9 (by kernel_rfl) (c := _) rfl Tryz.ntmps9 rfl (fun w0 h0 hval => ?_)
 refine W.rg env [1, 2] [2] ?_
 refine W.seq ?_
 obtain ⟨y1, hy2, H⟩ := of_bindO H
 refine W.region env [] [⟨.tup [.po y1.1.isSome [roL 4 enc_Task ((y1.1.getD default).Crew.Tasks), roL 1 enc_ListRange ((y1.1.getD default).Crew.Travel), roL 3 enc_Hand ((y1.1.getD default).Crew.Hands), roL 1 enc_Int ((y1.1.getD default).next)], .int .i64 (y1.2)], [], 0, []⟩] rfl rfl rfl .nil (.free (c_crew_asked p0 p1 hy2) .nil) (At.keep (ts := [1, 6, 7]) (ids := []) rfl rfl ?_)
 refine At.thenC ?_
 refine W.seq ?_
 refine W.rg env [1, 6, 7, 19] [] ?_
 refine W.cond rfl (fun hb3 => ?_) (fun hb3 => ?_)
 · have H := of_true H hb3
   refine W.rg env [4, 5] [] ?_
   refine W.ret ?_
   refine At.rthen ?_
   cases H
   exact At.ret env.ty rfl rfl (fun q hq => by cases hq) (Sim.tupL (.cons (Sim.nil _ _) (.cons (.refl _) .nil))) hval
 · have H := of_false H hb3
   refine W.skip ?_
   refine At.thenC ?_
   refine W.rg env [8] [8] ?_
   refine W.seq ?_
   obtain ⟨y4, hy5, H⟩ := of_bindO H
   refine W.region env [] [⟨roL 1 enc_Int y4, [], 0, []⟩] rfl rfl rfl .nil (.free (c_crew_shift__indices (⟨y1.1, p1⟩ : crew_shift) hy5) .nil) (At.keep (ts := [8, 9]) (ids := [8]) rfl rfl ?_)
   refine At.thenC ?_
   refine W.seq ?_
   refine W.seq ?_
   obtain ⟨y6, hy7, H⟩ := of_bindO H
   obtain ⟨y8, hy9, H⟩ := of_bindO H
   refine W.region env [] [⟨roL 1 enc_Int y6, [], 0, []⟩, ⟨.bool (y8), [], 0, []⟩] rfl rfl (by kernel_rfl) .nil (.free (c_crew_shift__free (⟨y1.1, p1⟩ : crew_shift) hy7) (.free (c_crew_shift__all fuel (⟨y1.1, p1⟩ : crew_shift) y4 y6 hy9) .nil)) (At.keep (ts := [8, 9, 30]) (ids := [8]) rfl rfl ?_)
   refine At.thenC ?_
   refine W.cond rfl (fun hb10 => ?_) (fun hb10 => ?_)
   · have H := of_true H hb10
     refine W.rg env [4, 5] [] ?_
     refine W.ret ?_
     refine At.rthen ?_
     cases H
     exact At.ret env.ty rfl rfl (fun q hq => by cases hq) (Sim.tupL (.cons (Sim.nil _ _) (.cons (.refl _) .nil))) hval
   · have H := of_false H hb10
     refine W.skip ?_
     refine At.thenC ?_
     refine W.seq ?_
     obtain ⟨hc11, H⟩ := of_must H
     refine W.sr env [] [] [8, 9, 10] [8] rfl rfl rfl (.cons hc11 .nil) .nil ?_
     refine W.block ?_
     refine At.keep (ts := [8, 9, 10]) (ids := [8]) rfl rfl ?_
     refine W.loopGo H (fun (s12 : Int × (List Int)) => [(8, .lp 8 0), (9, roL 1 enc_Int s12.2), (10, .int .i64 (s12.1))]) (fun (s12 : Int × (List Int)) => [(8, .cells [.po y1.1.isSome [roL 4 enc_Task ((y1.1.getD default).Crew.Tasks), roL 1 enc_ListRange ((y1.1.getD default).Crew.Travel), roL 3 enc_Hand ((y1.1.getD default).Crew.Hands), roL 1 enc_Int ((y1.1.getD default).next)], roL 1 enc_ListInt p1])]) (.cons .q (.cons .q (.cons .qi .nil))) (.cons .q .nil) (fun k12 s12 H K0 hK12 => ?_)
     refine W.seq ?_
     refine W.rg env [8, 9, 10, 35] [8] ?_
     refine W.cond rfl (fun hb13 => ?_) (fun hb13 => ?_)
     · have H := of_true H hb13
       refine W.skip ?_
       refine At.thenC ?_
       refine W.seq ?_
       refine W.block ?_
       refine W.seq ?_
       obtain ⟨y14, hy15, H⟩ := of_bindO H
       obtain ⟨hc16, H⟩ := of_must H
       obtain ⟨y17, hy18, H⟩ := of_bindO H
       refine W.region env [] [⟨.buf 900 y14.length, [(900, bufL 3 1 enc_Int y14)], 40000, []⟩, ⟨.buf 900 y17.length, [(40900, .dead), (900, bufL 3 1 enc_Int y17)], 44000, []⟩] rfl rfl (by kernel_rfl) (.cons hc16 .nil) (.free ((Ctr.ofO (co_slices_Clone_int s12.2 hy15))) (.free (CtrO.sim (CtrO.at (co_slices_Delete_int y14 s12.1 (s12.1 + 1) hy18) rfl 40900) (.cons .qc (.cons (.refl _) (.cons (.refl _) .nil))) (.cons (.refl _) .nil)) .nil)) (At.keep (ts := [8, 9, 10, 11]) (ids := [8, 44900]) rfl rfl ?_)
       refine At.thenC ?_
       refine W.seq ?_
       obtain ⟨y19, hy20, H⟩ := of_bindO H
       obtain ⟨y21, hy22, H⟩ := of_bindO H
       refine W.region env [] [⟨roL 1 enc_Int y19, [], 0, []⟩, ⟨.bool (y21), [], 0, []⟩] rfl rfl (by kernel_rfl) (.cons (by first | rfl | (simp; done) | omega | (simp; omega)) .nil) (.free (c_crew_shift__free (⟨y1.1, p1⟩ : crew_shift) hy20) (.free (c_crew_shift__all fuel (⟨y1.1, p1⟩ : crew_shift) y17 y19 hy22) .nil)) (At.keep (ts := [8, 9, 10, 11, 49]) (ids := [8, 44900]) rfl rfl ?_)
       refine At.thenC ?_
       refine W.cond rfl (fun hb23 => ?_) (fun hb23 => ?_)
       · have H := of_true H hb23
         refine W.region env [] [] rfl rfl rfl .nil .nil (At.keep (ts := [8, 9, 10]) (ids := [8, 44900]) rfl rfl ?_)
         refine At.inb ?_
         refine At.thenC ?_
         obtain ⟨hc24, H⟩ := of_must H
         refine W.region env [] [] rfl rfl rfl (.cons hc24 .nil) .nil (At.keep (ts := [8, 9, 10]) (ids := [8, 44900]) rfl rfl ?_)
         refine At.freezeA 44900 (K := [8]) (ts := [8, 9, 10]) rfl rfl rfl rfl (.cons (by first | rfl | (simp; done) | omega | (simp; omega)) .nil) .nil (fun _ h => h) ?_
         refine At.thenK (At.keep (ts := [8, 9, 10]) (ids := [8]) rfl rfl ?_)
         exact At.conv (.cons .q (.cons .q (.cons .qi .nil))) (.cons .q .nil) (hK12 ((s12.1 - 1), y17) H)
       · have H := of_false H hb23
         refine W.skip ?_
         refine At.inb ?_
         refine At.thenC ?_
         obtain ⟨hc25, H⟩ := of_must H
         refine W.region env [] [] rfl rfl rfl (.cons hc25 .nil) .nil (At.keep (ts := [8, 9, 10]) (ids := [8]) rfl rfl ?_)
         refine At.thenK (At.keep (ts := [8, 9, 10]) (ids := [8]) rfl rfl ?_)
         exact At.conv (.cons .q (.cons .q (.cons .qi .nil))) (.cons .q .nil) (hK12 ((s12.1 - 1), s12.2) H)
     · have H := of_false H hb13
       refine W.exit ?_
       refine At.xthen ?_
       refine At.xthen ?_
       refine At.xhere ?_
       refine At.thenC ?_
       refine W.rg env [4, 5] [] ?_
       refine W.ret ?_
       cases H
       exact At.ret env.ty rfl rfl (fun q hq => by cases hq) (.refl _) hval
theorem c_gasolierref04_less (p0 : (List Int)) (p1 : Int) {r : (List Int)} (H : gasolierref04_less p0 p1 = some r) : Ctr Tryz.prog 50 [roL 1 enc_Int p0, .int .i64 (p1)] (roL 1 enc_Int r) := by
 unfold gasolierref04_less at H
 refine Ctr.of_body (N := 15) Tryz.func50 (by kernel_rfl) (c := _) rfl Tryz.ntmps50 rfl (fun w0 h0 hval => ?_)
 refine W.rg env [0, 1] [] ?_
 refine W.seq ?_
 obtain ⟨hc1, H⟩ := of_must H
 obtain ⟨hc2, H⟩ := of_must H
 obtain ⟨hc3, H⟩ := of_must H
 obtain ⟨hc4, H⟩ := of_must H
 obtain ⟨hc5, H⟩ := of_must H
 refine W.region env [5] [] rfl rfl (by first | rfl | kernel_rfl) (.cons hc1 (.cons (⟨by first | rfl | (simp; done) | omega | (simp; omega), by have := hc2; first | simpa using this | (unfold room at this ⊢; simp at this ⊢; omega)⟩) (.cons hc3 (.cons hc4 (.cons (⟨by first | rfl | (simp; done) | omega | (simp; omega), by have := hc5; first | simpa using this | (unfold room at this ⊢; simp at this ⊢; omega)⟩) .nil))))) .nil (At.keep (ts := [4]) (ids := [5]) rfl rfl ?_)
 refine At.convM (.cons (y := bufL 3 1 enc_Int ((([] : List Int) ++ (p0.take (p1).toNat)) ++ (p0.drop ((p1 + 1)).toNat))) (BSim.seg (Seg.push (Seg.push (Seg.lit (f := enc_Int) (sz := 1) ([] : List Int) rfl rfl (fun _ => rfl)) (Seg.take enc_Int p0 ((p1).toNat) (by omega))) (Seg.drop enc_Int p0 (((p1 + 1)).toNat)))) .nil) ?_
 refine At.thenC ?_
 refine W.ret ?_
 cases H
 exact At.ret env.ty rfl rfl (fun q hq => by cases hq; exact (by first | rfl | (simp; done) | omega | (simp; omega))) (.refl _) hval
theorem c_gasolierref04_some (p0 : (List (List Int))) (p1 : (List Int)) {r : (List (List Int))} (H : gasolierref04_some p0 p1 = some r) : Ctr Tryz.prog 51 [roL 1 enc_ListInt p0, roL 1 enc_Int p1] (roL 1 enc_ListInt r) := by
 unfold gasolierref04_some at H
 refine Ctr.of_body (N := 23) Tryz.func51 (by kernel_rfl) (c := _) rfl Tryz.ntmps51 rfl (fun w0 h0 hval => ?_)
 refine W.rg env [0, 1] [] ?_
 refine W.rg env [0, 1, 5] [] ?_
 refine W.seq ?_
 refine W.rg env [0, 5, 8, 9, 10] [] ?_
 refine W.block ?_
 refine At.nilOwn 5 505 28 1 (e := fun i => enc_ListInt (([] : List (List Int)).getD i default)) rfl rfl ?_
 refine At.keep (ts := [0, 5, 8, 9, 10]) (ids := [505]) rfl rfl ?_
 refine W.len (t := 8) rfl (fun (hn1 : p1.length ≤ maxLen) => ?_)
 refine W.rangeGo H (fun i1 (s1 : (List (List Int))) => [(0, roL 1 enc_ListInt p0), (5, .buf 505 (s1).length), (8, roL 1 enc_Int p1), (9, .int .i64 (((p1.length : Nat) : Int))), (10, .int .i64 ((i1 : Int)))]) (fun i1 (s1 : (List (List Int))) => [(505, bufL 28 1 enc_ListInt s1)]) (.cons .q (.cons .qb (.cons .q (.cons .qi (.cons .qi .nil))))) (.cons .q .nil) (fun k1 i1 s1 hle1 H1 H2 K0 hK1 => ?_)
 refine W.rg env [0, 5, 8, 9, 10, 11] [505] ?_
 refine W.seq ?_
 refine W.cond rfl (fun hb2 => ?_) (fun hb2 => ?_)
 · have hi1 : i1 < p1.length := by have := of_decide_eq_true hb2; omega
   have H := H1 hi1
   refine W.skip ?_
   refine At.thenC ?_
   refine W.seq ?_
   refine W.block ?_
   refine W.sr env [] [] [0, 5, 7, 8, 9, 10] [505] rfl rfl rfl (.cons (⟨by omega, by omega⟩ : 0 ≤ (i1 : Int) ∧ (i1 : Int) < ((p1.length : Nat) : Int)) .nil) .nil ?_
   obtain ⟨hc3, H⟩ := of_must H
   obtain ⟨hc4, H⟩ := of_must H
   refine W.region env [] [] rfl rfl rfl (.cons hc3 (.cons (⟨by first | rfl | (simp; done) | omega | (simp; omega), by have := hc4; first | simpa using this | (unfold room at this ⊢; simp at this ⊢; omega)⟩) .nil)) .nil (At.keep (ts := [0, 5, 8, 9, 10]) (ids := [505]) rfl rfl ?_)
   refine At.convM (.cons (y := bufL 28 1 enc_ListInt (s1 ++ ([(p0.getD ((p1.getD i1 default)).toNat default)] : List (List Int)))) (BSim.seg (Seg.push (Seg.refl enc_ListInt _) (Seg.lit (f := enc_ListInt) (sz := 1) ([(p0.getD ((p1.getD i1 default)).toNat default)] : List (List Int)) rfl rfl (fun _ => rfl)))) .nil) ?_
   refine At.inb ?_
   refine At.thenC ?_
   refine W.region env [] [] rfl rfl rfl (.cons (by unfold inI; have := hn1; (try unfold maxLen at this); omega) .nil) .nil (At.keep (ts := [0, 5, 8, 9, 10]) (ids := [505]) rfl rfl ?_)
   refine At.thenK (At.keep (ts := [0, 5, 8, 9, 10]) (ids := [505]) rfl rfl ?_)
   exact At.conv (.cons .q (.cons .qb (.cons .q (.cons .qi (.cons .qi .nil))))) (.cons .q .nil) (hK1 hi1 (s1 ++ ([(p0.getD ((p1.getD i1 default)).toNat default)] : List (List Int))) H)
 · have H := H2 (by have := of_decide_eq_false hb2; omega)
   refine W.exit ?_
   refine At.xthen ?_
   refine At.xthen ?_
   refine At.xhere ?_
   refine At.thenC ?_
   refine W.rg env [4] [505] ?_
   refine W.ret ?_
   cases H
   exact At.ret env.ty rfl rfl (fun q hq => by cases hq; exact (by first | rfl | (simp; done) | omega | (simp; omega))) (.refl _) hval
end Go.Sp
