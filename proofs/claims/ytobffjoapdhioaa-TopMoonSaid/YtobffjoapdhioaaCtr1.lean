/- Printed by gen.py. -/
import Derived.Test.YtobffjoapdhioaaFr4
import Derived.Test.YtobffjoapdhioaaFr3
import Derived.Test.YtobffjoapdhioaaProg
import Derived.KernelRfl
set_option linter.all false
set_option maxRecDepth 100000
set_option maxHeartbeats 1000000
set_option linter.unusedVariables false
namespace Go.Sp
open Go Go.Av Go.Proofs
def enc_Int (x : Int) : List AV := [.int .i64 (x)]
def enc_Arr3Int (x : (Arr3 Int)) : List AV := [.int .i64 (x.x0), .int .i64 (x.x1), .int .i64 (x.x2)]
def enc_Row (x : Row) : List AV := [.int .i64 (x.Minute), .int .i64 (x.Height.Num), .int .i64 (x.Height.Den), .int .i64 (x.Bearing.Num), .int .i64 (x.Bearing.Den)]
def enc_Sheet (x : Sheet) : List AV := [.int .i64 (x.Source), .int .i64 (x.Night), .int .i64 (x.Known), .int .i64 (x.Until), roL 5 enc_Row x.Rows, .int .i64 (x.Off.Num), .int .i64 (x.Off.Den), .int .i64 (x.Light.Lo), .int .i64 (x.Light.Hi)]
def enc_Roof (x : Roof) : List AV := [.int .i64 (x.From), .int .i64 (x.To), .int .i64 (x.Top)]
def enc_Sighting (x : Sighting) : List AV := [.int .i64 (x.Source), .int .i64 (x.Night), .int .i64 (x.Minute), .bool (x.Above), .int .i64 (x.Known), .int .i64 (x.Until)]
def enc_Version (x : Version) : List AV := [.int .i64 (x.Source), .int .i64 (x.Class), .int .i64 (x.From), .int .i64 (x.On.Lo), .int .i64 (x.On.Hi), .int .i64 (x.Off.Lo), .int .i64 (x.Off.Hi), .int .i64 (x.Moon), .int .i64 (x.Fog), .int .i64 (x.Known), .int .i64 (x.Until)]
def enc_Street (x : Street) : List AV := [.int .i64 (x.Id), .int .i64 (x.Class), .int .i64 (x.District), .int .i64 (x.First), .int .i64 (x.Many)]
def tids : List Nat := [3, 4, 22, 23, 24, 25, 27, 29, 31, 33, 35, 38, 39, 40, 42, 44, 48, 50, 51, 59, 60, 62, 63, 65, 68, 72, 74, 79, 83, 95, 97, 98, 100, 124, 125, 127, 128, 135, 137, 143, 146]
def Γ : Tys := [(3, ⟨.int .i64, [.int .i64 0], 1, 8⟩),
 (4, ⟨.bool, [.bool false], 1, 1⟩),
 (22, ⟨.slice 25, [.slice none 0 0], 1, 24⟩),
 (23, ⟨.array 2 3, [.int .i64 0, .int .i64 0], 2, 16⟩),
 (24, ⟨.slice 3, [.slice none 0 0], 1, 24⟩),
 (25, ⟨.array 3 3, [.int .i64 0, .int .i64 0, .int .i64 0], 3, 24⟩),
 (27, ⟨.struct [(0, 22), (1, 23), (3, 22), (4, 24), (5, 25), (8, 3)], [.slice none 0 0, .int .i64 0, .int .i64 0, .slice none 0 0, .slice none 0 0, .int .i64 0, .int .i64 0, .int .i64 0, .int .i64 0], 9, 120⟩),
 (29, ⟨.slice 79, [.slice none 0 0], 1, 24⟩),
 (31, ⟨.struct [(0, 3), (1, 3)], [.int .i64 0, .int .i64 0], 2, 16⟩),
 (33, ⟨.struct [(0, 3), (1, 3)], [.int .i64 0, .int .i64 0], 2, 16⟩),
 (35, ⟨.struct [(0, 3), (1, 3), (2, 3), (3, 3), (4, 29), (5, 31), (7, 33)], [.int .i64 0, .int .i64 0, .int .i64 0, .int .i64 0, .slice none 0 0, .int .i64 0, .int .i64 0, .int .i64 0, .int .i64 0], 9, 88⟩),
 (38, ⟨.slice 35, [.slice none 0 0], 1, 24⟩),
 (39, ⟨.slice 44, [.slice none 0 0], 1, 24⟩),
 (40, ⟨.slice 48, [.slice none 0 0], 1, 24⟩),
 (42, ⟨.struct [(0, 38), (1, 39), (2, 40)], [.slice none 0 0, .slice none 0 0, .slice none 0 0], 3, 72⟩),
 (44, ⟨.struct [(0, 3), (1, 3), (2, 3)], [.int .i64 0, .int .i64 0, .int .i64 0], 3, 24⟩),
 (48, ⟨.struct [(0, 3), (1, 3), (2, 3), (3, 4), (4, 3), (5, 3)], [.int .i64 0, .int .i64 0, .int .i64 0, .bool false, .int .i64 0, .int .i64 0], 6, 48⟩),
 (50, ⟨.struct [(0, 3), (1, 33), (3, 33), (5, 33), (7, 3)], [.int .i64 0, .int .i64 0, .int .i64 0, .int .i64 0, .int .i64 0, .int .i64 0, .int .i64 0, .int .i64 0], 8, 64⟩),
 (51, ⟨.int .i64, [.int .i64 0], 1, 8⟩),
 (59, ⟨.struct [(0, 3), (1, 3), (2, 3), (3, 33), (5, 33), (7, 3), (8, 3), (9, 3), (10, 3)], [.int .i64 0, .int .i64 0, .int .i64 0, .int .i64 0, .int .i64 0, .int .i64 0, .int .i64 0, .int .i64 0, .int .i64 0, .int .i64 0, .int .i64 0], 11, 88⟩),
 (60, ⟨.slice 59, [.slice none 0 0], 1, 24⟩),
 (62, ⟨.struct [(0, 3), (1, 3), (2, 3), (3, 3), (4, 3)], [.int .i64 0, .int .i64 0, .int .i64 0, .int .i64 0, .int .i64 0], 5, 40⟩),
 (63, ⟨.slice 62, [.slice none 0 0], 1, 24⟩),
 (65, ⟨.struct [(0, 60), (1, 63)], [.slice none 0 0, .slice none 0 0], 2, 48⟩),
 (68, ⟨.struct [(0, 3), (1, 3), (2, 3), (3, 4)], [.int .i64 0, .int .i64 0, .int .i64 0, .bool false], 4, 32⟩),
 (72, ⟨.struct [(0, 3), (1, 3)], [.int .i64 0, .int .i64 0], 2, 16⟩),
 (74, ⟨.struct [(0, 3), (1, 33), (3, 33)], [.int .i64 0, .int .i64 0, .int .i64 0, .int .i64 0, .int .i64 0], 5, 40⟩),
 (79, ⟨.struct [(0, 3), (1, 31), (3, 31)], [.int .i64 0, .int .i64 0, .int .i64 0, .int .i64 0, .int .i64 0], 5, 40⟩),
 (83, ⟨.ptr 97, [.pointer none], 1, 8⟩),
 (95, ⟨.struct [(0, 31), (2, 4), (3, 31)], [.int .i64 0, .int .i64 0, .bool false, .int .i64 0, .int .i64 0], 5, 40⟩),
 (97, ⟨.struct [(0, 35), (9, 39), (10, 40), (11, 95)], [.int .i64 0, .int .i64 0, .int .i64 0, .int .i64 0, .slice none 0 0, .int .i64 0, .int .i64 0, .int .i64 0, .int .i64 0, .slice none 0 0, .slice none 0 0, .int .i64 0, .int .i64 0, .bool false, .int .i64 0, .int .i64 0], 16, 176⟩),
 (98, ⟨.func, [.nilFunc], 1, 8⟩),
 (100, ⟨.struct [(0, 59), (11, 50)], [.int .i64 0, .int .i64 0, .int .i64 0, .int .i64 0, .int .i64 0, .int .i64 0, .int .i64 0, .int .i64 0, .int .i64 0, .int .i64 0, .int .i64 0, .int .i64 0, .int .i64 0, .int .i64 0, .int .i64 0, .int .i64 0, .int .i64 0, .int .i64 0, .int .i64 0], 19, 152⟩),
 (124, ⟨.func, [.nilFunc], 1, 8⟩),
 (125, ⟨.func, [.nilFunc], 1, 8⟩),
 (127, ⟨.func, [.nilFunc], 1, 8⟩),
 (128, ⟨.func, [.nilFunc], 1, 8⟩),
 (135, ⟨.func, [.nilFunc], 1, 8⟩),
 (137, ⟨.func, [.nilFunc], 1, 8⟩),
 (143, ⟨.func, [.nilFunc], 1, 8⟩),
 (146, ⟨.func, [.nilFunc], 1, 8⟩)]
theorem Γ_ok : mkTys Try.prog tids = some Γ := by kernel_rfl
theorem env : Env Try.prog Γ := ⟨mkTys_sound Γ_ok, by decide +kernel, by kernel_rfl⟩
theorem c_moon_within (p0 : Int) (p1 : Int) (p2 : Int) : Ctr Try.prog 42 [.int .i64 (p0), .int .i64 (p1), .int .i64 (p2)] (.bool ((moon_within p0 p1 p2))) := by
 obtain ⟨r, H⟩ : ∃ r, moon_within p0 p1 p2 = r := ⟨_, rfl⟩
 rw [H]
 unfold moon_within at H
 refine Ctr.of_body (N := 15) Try.func42 (by kernel_rfl) (c := _) rfl Try.ntmps42 rfl (fun w0 h0 hval => ?_)
 refine W.rg env [0, 1, 2] [] ?_
 refine W.sr env [] [] [6] [] rfl rfl rfl (.cons (fun h => h) (.cons (fun h => h) (.cons (fun h => h) .nil))) .nil ?_
 refine W.ret ?_
 cases H
 exact At.ret env.ty rfl rfl (fun q hq => by cases hq) (.refl _) hval
theorem c_moon_CheckRoof (p0 : Roof) : Ctr Try.prog 41 [.agg [.int .i64 (p0.From), .int .i64 (p0.To), .int .i64 (p0.Top)]] (.int .i64 ((moon_CheckRoof p0))) := by
 obtain ⟨r, H⟩ : ∃ r, moon_CheckRoof p0 = r := ⟨_, rfl⟩
 rw [H]
 unfold moon_CheckRoof at H
 refine Ctr.of_body (N := 24) Try.func41 (by kernel_rfl) (c := _) rfl Try.ntmps41 rfl (fun w0 h0 hval => ?_)
 refine W.rg env [1] [1] ?_
 refine W.seq ?_
 refine W.sr env [] [⟨.bool ((moon_within p0.Top 0 90)), [], 0, []⟩] [23] [] rfl rfl rfl (.cons (fun h => h) (.cons (fun h => h) (.cons (fun h => h) (.cons (fun h => h) (.cons (fun h => by rw [h]; rfl) (.cons (fun h => h) (.cons (fun h => h) (.cons (fun h => by rw [h]; rfl) (.cons (fun h => h) (.cons (fun h => h) (.cons (fun h => h) (.cons (fun h => by rw [h]; rfl) .nil)))))))))))) (.on (fun hW => c_moon_within p0.Top 0 90) .nil) ?_
 refine W.cond rfl (fun hb1 => ?_) (fun hb1 => ?_)
 · have H := of_true H hb1
   refine W.rg env [2] [] ?_
   refine W.ret ?_
   refine At.rthen ?_
   cases H
   exact At.ret env.ty rfl rfl (fun q hq => by cases hq) (.refl _) hval
 · have H := of_false H hb1
   refine W.skip ?_
   refine At.thenC ?_
   refine W.rg env [2] [] ?_
   refine W.ret ?_
   cases H
   exact At.ret env.ty rfl rfl (fun q hq => by cases hq) (.refl _) hval
theorem c_moon_areRoofs (p0 : (List Roof)) {r : Bool} (H : moon_areRoofs p0 = some r) : Ctr Try.prog 20 [roL 3 enc_Roof p0] (.bool (r)) := by
 unfold moon_areRoofs at H
 refine Ctr.of_body (N := 18) Try.func20 (by kernel_rfl) (c := _) rfl Try.ntmps20 rfl (fun w0 h0 hval => ?_)
 refine W.rg env [0] [] ?_
 refine W.seq ?_
 refine W.rg env [0, 5, 6, 7] [] ?_
 refine W.block ?_
 refine At.keep (ts := [0, 5, 6, 7]) (ids := []) rfl rfl ?_
 refine W.len (t := 5) rfl (fun (hn1 : p0.length ≤ maxLen) => ?_)
 refine W.rangeGo H (fun i1 (s1 : Unit) => [(0, roL 3 enc_Roof p0), (5, roL 3 enc_Roof p0), (6, .int .i64 (((p0.length : Nat) : Int))), (7, .int .i64 ((i1 : Int)))]) (fun i1 (s1 : Unit) => []) (.cons .q (.cons .q (.cons .qi (.cons .qi .nil)))) .nil (fun k1 i1 s1 hle1 H1 H2 K0 hK1 => ?_)
 refine W.rg env [0, 5, 6, 7, 8] [] ?_
 refine W.seq ?_
 refine W.cond rfl (fun hb2 => ?_) (fun hb2 => ?_)
 · have hi1 : i1 < p0.length := by have := of_decide_eq_true hb2; omega
   have H := H1 hi1
   refine W.skip ?_
   refine At.thenC ?_
   refine W.seq ?_
   refine W.block ?_
   refine W.sr env [] [] [0, 4, 5, 6, 7] [4] rfl rfl rfl (.cons (⟨by omega, by omega⟩ : 0 ≤ (i1 : Int) ∧ (i1 : Int) < ((p0.length : Nat) : Int)) .nil) .nil ?_
   refine W.sr env [] [⟨.int .i64 ((moon_CheckRoof (p0.getD i1 default))), [], 0, []⟩] [0, 5, 6, 7, 13] [] rfl rfl rfl .nil (.free (c_moon_CheckRoof (p0.getD i1 default)) .nil) ?_
   refine W.cond rfl (fun hb3 => ?_) (fun hb3 => ?_)
   · have H := of_true H hb3
     refine W.rg env [2] [] ?_
     refine W.ret ?_
     refine At.rinb ?_
     refine At.rthen ?_
     refine At.rthen ?_
     refine At.rinb ?_
     refine At.rthen ?_
     cases H
     exact At.ret env.ty rfl rfl (fun q hq => by cases hq) (.refl _) hval
   · have H := of_false H hb3
     refine W.skip ?_
     refine At.inb ?_
     refine At.thenC ?_
     refine W.region env [] [] rfl rfl rfl (.cons (by unfold inI; have := hn1; (try unfold maxLen at this); omega) .nil) .nil (At.keep (ts := [0, 5, 6, 7]) (ids := []) rfl rfl ?_)
     refine At.thenK (At.keep (ts := [0, 5, 6, 7]) (ids := []) rfl rfl ?_)
     exact At.conv (.cons .q (.cons .q (.cons .qi (.cons .qi .nil)))) .nil (hK1 hi1 () H)
 · have H := H2 (by have := of_decide_eq_false hb2; omega)
   refine W.exit ?_
   refine At.xthen ?_
   refine At.xthen ?_
   refine At.xhere ?_
   refine At.thenC ?_
   refine W.rg env [2] [] ?_
   refine W.ret ?_
   cases H
   exact At.ret env.ty rfl rfl (fun q hq => by cases hq) (.refl _) hval
theorem c_moon_isNight (p0 : Int) : Ctr Try.prog 43 [.int .i64 (p0)] (.bool ((moon_isNight p0))) := by
 obtain ⟨r, H⟩ : ∃ r, moon_isNight p0 = r := ⟨_, rfl⟩
 rw [H]
 unfold moon_isNight at H
 refine Ctr.of_body (N := 5) Try.func43 (by kernel_rfl) (c := _) rfl Try.ntmps43 rfl (fun w0 h0 hval => ?_)
 refine W.rg env [0] [] ?_
 refine W.sr env [] [⟨.bool ((moon_within p0 0 100000)), [], 0, []⟩] [2] [] rfl rfl rfl .nil (.free (c_moon_within p0 0 100000) .nil) ?_
 refine W.ret ?_
 cases H
 exact At.ret env.ty rfl rfl (fun q hq => by cases hq) (.refl _) hval
theorem c_moon_lasts (p0 : Int) (p1 : Int) : Ctr Try.prog 44 [.int .i64 (p0), .int .i64 (p1)] (.bool ((moon_lasts p0 p1))) := by
 obtain ⟨r, H⟩ : ∃ r, moon_lasts p0 p1 = r := ⟨_, rfl⟩
 rw [H]
 unfold moon_lasts at H
 refine Ctr.of_body (N := 20) Try.func44 (by kernel_rfl) (c := _) rfl Try.ntmps44 rfl (fun w0 h0 hval => ?_)
 refine W.rg env [0, 1] [] ?_
 refine W.sr env [] [⟨.bool ((moon_isNight p0)), [], 0, []⟩, ⟨.bool ((moon_isNight p1)), [], 0, []⟩] [4] [] rfl rfl rfl (.cons (fun h => h) (.cons (fun h => h) (.cons (fun h => h) (.cons (fun h => h) (.cons (fun h => h) (.cons (fun h => h) (.cons (fun h => h) (.cons (fun hW h => by revert hW h; first | (simp +contextual; done) | grind) (.cons (fun h => h) (.cons (fun hW h => by revert hW h; first | (simp +contextual; done) | grind) (.cons (fun h => h) .nil))))))))))) (.free (c_moon_isNight p0) (.on (fun hW => c_moon_isNight p1) .nil)) ?_
 refine W.ret ?_
 cases H
 exact At.ret env.ty rfl rfl (fun q hq => by cases hq) (.refl _) hval
theorem c_moon_isFrac (p0 : Frac) (p1 : Int) {r : Bool} (H : moon_isFrac p0 p1 = some r) : Ctr Try.prog 24 [.agg [.int .i64 (p0.Num), .int .i64 (p0.Den)], .int .i64 (p1)] (.bool (r)) := by
 unfold moon_isFrac at H
 refine Ctr.of_body (N := 20) Try.func24 (by kernel_rfl) (c := _) rfl Try.ntmps24 rfl (fun w0 h0 hval => ?_)
 refine W.rg env [1, 2] [2] ?_
 obtain ⟨hc1, H⟩ := of_must H
 obtain ⟨hc2, H⟩ := of_must H
 refine W.sr env [] [⟨.bool ((moon_within p0.Den 1 p1)), [], 0, []⟩, ⟨.bool ((moon_within p0.Num ((-360) * p0.Den) (360 * p0.Den))), [], 0, []⟩] [4] [] rfl rfl rfl (.cons (fun h => h) (.cons (fun h => h) (.cons hc1 (.cons (fun h => h) (.cons (fun h => h) (.cons hc2 (.cons (fun h => h) (.cons (fun h => h) (.cons (fun h => h) (.cons (fun h => h) (.cons (fun h => h) .nil))))))))))) (.free (c_moon_within p0.Den 1 p1) (.on (fun hW => c_moon_within p0.Num ((-360) * p0.Den) (360 * p0.Den)) .nil)) ?_
 refine W.ret ?_
 cases H
 exact At.ret env.ty rfl rfl (fun q hq => by cases hq) (.refl _) hval
theorem c_moon_isRow (p0 : Row) {r : Bool} (H : moon_isRow p0 = some r) : Ctr Try.prog 45 [.agg [.int .i64 (p0.Minute), .int .i64 (p0.Height.Num), .int .i64 (p0.Height.Den), .int .i64 (p0.Bearing.Num), .int .i64 (p0.Bearing.Den)]] (.bool (r)) := by
 unfold moon_isRow at H
 refine Ctr.of_body (N := 43) Try.func45 (by kernel_rfl) (c := _) rfl Try.ntmps45 rfl (fun w0 h0 hval => ?_)
 refine W.rg env [1] [1] ?_
 refine W.seq ?_
 obtain ⟨y1, hy2, H⟩ := of_bindO H
 obtain ⟨hc3, H⟩ := of_must H
 obtain ⟨hc4, H⟩ := of_must H
 refine W.region env [] [⟨.bool (y1), [], 0, []⟩, ⟨.bool ((moon_within p0.Height.Num ((-90) * p0.Height.Den) (90 * p0.Height.Den))), [], 0, []⟩] rfl rfl rfl (.cons (fun h => h) (.cons (fun h => h) (.cons (fun h => h) (.cons (fun h => h) (.cons hc3 (.cons (fun h => h) (.cons (fun h => h) (.cons (fun h => h) (.cons hc4 (.cons (fun h => h) (.cons (fun h => h) (.cons (fun h => h) (.cons (fun h => h) (.cons (fun h => h) .nil)))))))))))))) (.free (c_moon_isFrac p0.Height 100 hy2) (.on (fun hW => c_moon_within p0.Height.Num ((-90) * p0.Height.Den) (90 * p0.Height.Den)) .nil)) (At.keep (ts := [1, 3]) (ids := [1]) rfl rfl ?_)
 refine At.thenC ?_
 refine W.seq ?_
 obtain ⟨y5, hy6, H⟩ := of_bindO H
 obtain ⟨hc7, H⟩ := of_must H
 refine W.region env [] [⟨.bool (y5), [], 0, []⟩] rfl rfl rfl (.cons (fun h => h) (.cons (fun h => h) (.cons (fun h => h) (.cons (fun h => h) (.cons (fun h => h) (.cons (fun h => h) (.cons (fun h => h) (.cons (fun h => h) (.cons (fun h => h) (.cons (fun h => h) (.cons (fun h => h) (.cons hc7 (.cons (fun h => h) (.cons (fun h => h) (.cons (fun h => h) (.cons (fun h => h) .nil)))))))))))))))) (.on (fun hW => c_moon_isFrac p0.Bearing 100 (of_true hy6 hW)) .nil) (At.keep (ts := [2]) (ids := []) rfl rfl ?_)
 refine At.thenC ?_
 refine W.ret ?_
 cases H
 exact At.ret env.ty rfl rfl (fun q hq => by cases hq) (.refl _) hval
theorem c_moon_gcd (fuel : Nat) (p0 : Int) (p1 : Int) {r : Int} (H : moon_gcd fuel p0 p1 = some r) : Ctr Try.prog 82 [.int .i64 (p0), .int .i64 (p1)] (.int .i64 (r)) := by
 unfold moon_gcd at H
 refine Ctr.of_body (N := 15) Try.func82 (by kernel_rfl) (c := _) rfl Try.ntmps82 rfl (fun w0 h0 hval => ?_)
 refine W.rg env [0, 1] [] ?_
 refine W.seq ?_
 refine W.block ?_
 refine At.keep (ts := [0, 1]) (ids := []) rfl rfl ?_
 refine W.loopGo H (fun (s1 : Int × Int) => [(0, .int .i64 (s1.1)), (1, .int .i64 (s1.2))]) (fun (s1 : Int × Int) => []) (.cons .qi (.cons .qi .nil)) .nil (fun k1 s1 H K0 hK1 => ?_)
 refine W.seq ?_
 refine W.rg env [0, 1, 6] [] ?_
 refine W.cond rfl (fun hb2 => ?_) (fun hb2 => ?_)
 · have H := of_true H hb2
   refine W.skip ?_
   refine At.thenC ?_
   refine W.block ?_
   obtain ⟨hc3, H⟩ := of_must H
   refine W.region env [] [] rfl rfl (by first | rfl | kernel_rfl) (.cons hc3 .nil) .nil (At.keep (ts := [0, 1]) (ids := []) rfl rfl ?_)
   refine At.inb ?_
   refine At.thenK (At.keep (ts := [0, 1]) (ids := []) rfl rfl ?_)
   exact At.conv (.cons .qi (.cons .qi .nil)) .nil (hK1 (s1.2, (Int.tmod s1.1 s1.2)) H)
 · have H := of_false H hb2
   refine W.exit ?_
   refine At.xthen ?_
   refine At.xthen ?_
   refine At.xhere ?_
   refine At.thenC ?_
   obtain ⟨hc4, H⟩ := of_must H
   refine W.sr env [] [] [4] [] rfl rfl rfl (.cons hc4 .nil) .nil ?_
   refine W.ret ?_
   cases H
   exact At.ret env.ty rfl rfl (fun q hq => by cases hq) (.refl _) hval
theorem c_moon_least (fuel : Nat) (p0 : Int) (p1 : Int) {r : Frac} (H : moon_least fuel p0 p1 = some r) : Ctr Try.prog 66 [.int .i64 (p0), .int .i64 (p1)] (.agg [.int .i64 (r.Num), .int .i64 (r.Den)]) := by
 unfold moon_least at H
 refine Ctr.of_body (N := 16) Try.func66 (by kernel_rfl) (c := _) rfl Try.ntmps66 rfl (fun w0 h0 hval => ?_)
 refine W.rg env [0, 1, 4] [4] ?_
 refine W.seq ?_
 obtain ⟨y1, hy2, H⟩ := of_bindO H
 refine W.region env [] [⟨.int .i64 (y1), [], 0, []⟩] rfl rfl rfl .nil (.free (c_moon_gcd fuel p0 p1 hy2) .nil) (At.keep (ts := [0, 1, 4, 5]) (ids := [4]) rfl rfl ?_)
 refine At.thenC ?_
 obtain ⟨hc3, H⟩ := of_must H
 obtain ⟨hc4, H⟩ := of_must H
 refine W.sr env [] [] [4] [4] rfl rfl (by first | rfl | kernel_rfl) (.cons hc3 (.cons hc4 .nil)) .nil ?_
 refine W.ret ?_
 cases H
 exact At.ret env.ty rfl rfl (fun q hq => by cases hq) (.refl _) hval
theorem c_moon_reduced (fuel : Nat) (p0 : Frac) {r : Frac} (H : moon_reduced fuel p0 = some r) : Ctr Try.prog 69 [.agg [.int .i64 (p0.Num), .int .i64 (p0.Den)]] (.agg [.int .i64 (r.Num), .int .i64 (r.Den)]) := by
 unfold moon_reduced at H
 refine Ctr.of_body (N := 8) Try.func69 (by kernel_rfl) (c := _) rfl Try.ntmps69 rfl (fun w0 h0 hval => ?_)
 refine W.rg env [1, 2] [1, 2] ?_
 refine W.seq ?_
 obtain ⟨y1, hy2, H⟩ := of_bindO H
 refine W.region env [] [⟨.agg [.int .i64 (y1.Num), .int .i64 (y1.Den)], [], 0, []⟩] rfl rfl rfl .nil (.free (c_moon_least fuel p0.Num p0.Den hy2) .nil) (At.keep (ts := [2]) (ids := [2]) rfl rfl ?_)
 refine At.thenC ?_
 refine W.ret ?_
 cases H
 exact At.ret env.ty rfl rfl (fun q hq => by cases hq) (.refl _) hval
theorem c_cmp_isNaN_int (p0 : Int) : Ctr Try.prog 84 [.int .i64 (p0)] (.bool ((cmp_isNaN_int p0))) := by
 obtain ⟨r, H⟩ : ∃ r, cmp_isNaN_int p0 = r := ⟨_, rfl⟩
 rw [H]
 unfold cmp_isNaN_int at H
 refine Ctr.of_body (N := 6) Try.func84 (by kernel_rfl) (c := _) rfl Try.ntmps84 rfl (fun w0 h0 hval => ?_)
 refine W.rg env [0] [] ?_
 refine W.rg env [2] [] ?_
 refine W.ret ?_
 cases H
 exact At.ret env.ty rfl rfl (fun q hq => by cases hq) (.refl _) hval
theorem c_cmp_Compare_int (p0 : Int) (p1 : Int) : Ctr Try.prog 70 [.int .i64 (p0), .int .i64 (p1)] (.int .i64 ((cmp_Compare_int p0 p1))) := by
 obtain ⟨r, H⟩ : ∃ r, cmp_Compare_int p0 p1 = r := ⟨_, rfl⟩
 rw [H]
 unfold cmp_Compare_int at H
 refine Ctr.of_body (N := 20) Try.func70 (by kernel_rfl) (c := _) rfl Try.ntmps70 rfl (fun w0 h0 hval => ?_)
 refine W.rg env [0, 1] [] ?_
 refine W.sr env [] [⟨.bool ((cmp_isNaN_int p0)), [], 0, []⟩] [0, 1, 5] [] rfl rfl rfl .nil (.free (c_cmp_isNaN_int p0) .nil) ?_
 refine W.sr env [] [⟨.bool ((cmp_isNaN_int p1)), [], 0, []⟩] [0, 1, 5, 6] [] rfl rfl rfl .nil (.free (c_cmp_isNaN_int p1) .nil) ?_
 refine W.seq ?_
 refine W.rg env [0, 1, 6, 11] [] ?_
 refine W.cond rfl (fun hb1 => ?_) (fun hb1 => ?_)
 · have H := of_true H hb1
   refine W.seq ?_
   refine W.rg env [12] [] ?_
   refine W.cond rfl (fun hb2 => ?_) (fun hb2 => ?_)
   · have H := of_true H hb2
     refine W.rg env [4] [] ?_
     refine W.ret ?_
     refine At.rthen ?_
     refine At.rthen ?_
     cases H
     exact At.ret env.ty rfl rfl (fun q hq => by cases hq) (.refl _) hval
   · have H := of_false H hb2
     refine W.skip ?_
     refine At.thenC ?_
     refine W.rg env [4] [] ?_
     refine W.ret ?_
     refine At.rthen ?_
     cases H
     exact At.ret env.ty rfl rfl (fun q hq => by cases hq) (.refl _) hval
 · have H := of_false H hb1
   refine W.skip ?_
   refine At.thenC ?_
   refine W.seq ?_
   refine W.rg env [0, 1, 13] [] ?_
   refine W.cond rfl (fun hb3 => ?_) (fun hb3 => ?_)
   · have H := of_true H hb3
     refine W.rg env [4] [] ?_
     refine W.ret ?_
     refine At.rthen ?_
     cases H
     exact At.ret env.ty rfl rfl (fun q hq => by cases hq) (.refl _) hval
   · have H := of_false H hb3
     refine W.skip ?_
     refine At.thenC ?_
     refine W.seq ?_
     refine W.rg env [0, 1, 16] [] ?_
     refine W.cond rfl (fun hb4 => ?_) (fun hb4 => ?_)
     · have H := of_true H hb4
       refine W.rg env [4] [] ?_
       refine W.ret ?_
       refine At.rthen ?_
       cases H
       exact At.ret env.ty rfl rfl (fun q hq => by cases hq) (.refl _) hval
     · have H := of_false H hb4
       refine W.skip ?_
       refine At.thenC ?_
       refine W.seq ?_
       refine W.rg env [19] [] ?_
       refine W.cond rfl (fun hb5 => ?_) (fun hb5 => ?_)
       · have H := of_true H hb5
         refine W.rg env [4] [] ?_
         refine W.ret ?_
         refine At.rthen ?_
         cases H
         exact At.ret env.ty rfl rfl (fun q hq => by cases hq) (.refl _) hval
       · have H := of_false H hb5
         refine W.skip ?_
         refine At.thenC ?_
         refine W.rg env [4] [] ?_
         refine W.ret ?_
         cases H
         exact At.ret env.ty rfl rfl (fun q hq => by cases hq) (.refl _) hval
theorem c_moon_compare (fuel : Nat) (p0 : Frac) (p1 : Frac) {r : Int} (H : moon_compare fuel p0 p1 = some r) : Ctr Try.prog 38 [.agg [.int .i64 (p0.Num), .int .i64 (p0.Den)], .agg [.int .i64 (p1.Num), .int .i64 (p1.Den)]] (.int .i64 (r)) := by
 unfold moon_compare at H
 refine Ctr.of_body (N := 21) Try.func38 (by kernel_rfl) (c := _) rfl Try.ntmps38 rfl (fun w0 h0 hval => ?_)
 refine W.rg env [2, 3] [2, 3] ?_
 refine W.seq ?_
 refine W.seq ?_
 obtain ⟨y1, hy2, H⟩ := of_bindO H
 obtain ⟨y3, hy4, H⟩ := of_bindO H
 refine W.region env [] [⟨.agg [.int .i64 (y1.Num), .int .i64 (y1.Den)], [], 0, []⟩, ⟨.agg [.int .i64 (y3.Num), .int .i64 (y3.Den)], [], 0, []⟩] rfl rfl (by kernel_rfl) .nil (.free (c_moon_reduced fuel p0 hy2) (.free (c_moon_reduced fuel p1 hy4) .nil)) (At.keep (ts := [2, 3, 9]) (ids := [2, 3]) rfl rfl ?_)
 refine At.thenC ?_
 refine W.cond rfl (fun hb5 => ?_) (fun hb5 => ?_)
 · have H := of_true H hb5
   refine W.rg env [4] [] ?_
   refine W.ret ?_
   refine At.rthen ?_
   cases H
   exact At.ret env.ty rfl rfl (fun q hq => by cases hq) (.refl _) hval
 · have H := of_false H hb5
   refine W.skip ?_
   refine At.thenC ?_
   obtain ⟨hc6, H⟩ := of_must H
   obtain ⟨hc7, H⟩ := of_must H
   refine W.sr env [] [⟨.int .i64 ((cmp_Compare_int (p0.Num * p1.Den) (p1.Num * p0.Den))), [], 0, []⟩] [4] [] rfl rfl rfl (.cons hc6 (.cons hc7 .nil)) (.free (c_cmp_Compare_int (p0.Num * p1.Den) (p1.Num * p0.Den)) .nil) ?_
   refine W.ret ?_
   cases H
   exact At.ret env.ty rfl rfl (fun q hq => by cases hq) (.refl _) hval
theorem c_moon_CheckSheet (fuel : Nat) (p0 : Sheet) {r : Int} (H : moon_CheckSheet fuel p0 = some r) : Ctr Try.prog 21 [.agg [.int .i64 (p0.Source), .int .i64 (p0.Night), .int .i64 (p0.Known), .int .i64 (p0.Until), roL 5 enc_Row p0.Rows, .int .i64 (p0.Off.Num), .int .i64 (p0.Off.Den), .int .i64 (p0.Light.Lo), .int .i64 (p0.Light.Hi)]] (.int .i64 (r)) := by
 unfold moon_CheckSheet at H
 refine Ctr.of_body (N := 127) Try.func21 (by kernel_rfl) (c := _) rfl Try.ntmps21 rfl (fun w0 h0 hval => ?_)
 refine W.rg env [1] [1] ?_
 refine W.seq ?_
 refine W.seq ?_
 obtain ⟨y1, hy2, H⟩ := of_bindO H
 obtain ⟨hc3, H⟩ := of_must H
 refine W.region env [] [⟨.bool ((moon_within p0.Source 1 99999)), [], 0, []⟩, ⟨.bool ((moon_isNight p0.Night)), [], 0, []⟩, ⟨.bool ((moon_lasts p0.Known p0.Until)), [], 0, []⟩, ⟨.bool ((moon_within ((p0.Rows.length : Nat) : Int) 2 12)), [], 0, []⟩, ⟨.bool (y1), [], 0, []⟩, ⟨.bool ((moon_within p0.Off.Num 0 (90 * p0.Off.Den))), [], 0, []⟩] rfl rfl rfl (.cons (fun h => h) (.cons (fun h => h) (.cons (fun h => h) (.cons (fun h => by rw [h]; rfl) (.cons (fun h => h) (.cons (fun h => h) (.cons (fun h => h) (.cons (fun h => h) (.cons (fun h => h) (.cons (fun h => by rw [h]; rfl) (.cons (fun h => h) (.cons (fun h => h) (.cons (fun h => h) (.cons (fun h => h) (.cons (fun h => by rw [h]; rfl) (.cons (fun h => h) (.cons (fun h => h) (.cons (fun h => h) (.cons (fun h => by rw [h]; rfl) (.cons (fun h => h) (.cons (fun h => h) (.cons (fun h => h) (.cons (fun h => h) (.cons hc3 (.cons (fun h => h) (.cons (fun h => h) (.cons (fun h => h) (.cons (fun h => h) (.cons (fun h => by rw [h]; rfl) (.cons (fun h => h) (.cons (fun h => h) (.cons (fun h => h) (.cons (fun h => by rw [h]; rfl) (.cons (fun h => h) (.cons (fun h => h) (.cons (fun h => h) (.cons (fun h => h) (.cons (fun h => h) (.cons (fun h => h) (.cons (fun h => by rw [h]; rfl) (.cons (fun h => h) (.cons (fun h => h) (.cons (fun h => h) (.cons (fun h => by rw [h]; rfl) .nil)))))))))))))))))))))))))))))))))))))))))))) (.free (c_moon_within p0.Source 1 99999) (.on (fun hW => c_moon_isNight p0.Night) (.on (fun hW => c_moon_lasts p0.Known p0.Until) (.on (fun hW => c_moon_within ((p0.Rows.length : Nat) : Int) 2 12) (.on (fun hW => c_moon_isFrac p0.Off 100 (of_true hy2 hW)) (.on (fun hW => c_moon_within p0.Off.Num 0 (90 * p0.Off.Den)) .nil)))))) (At.keep (ts := [1, 67]) (ids := [1]) rfl rfl ?_)
 refine At.thenC ?_
 refine W.cond rfl (fun hb4 => ?_) (fun hb4 => ?_)
 · have H := of_true H hb4
   refine W.rg env [2] [] ?_
   refine W.ret ?_
   refine At.rthen ?_
   cases H
   exact At.ret env.ty rfl rfl (fun q hq => by cases hq) (.refl _) hval
 · have H := of_false H hb4
   refine W.skip ?_
   refine At.thenC ?_
   refine W.seq ?_
   refine W.rg env [1, 69, 70, 71] [1] ?_
   refine W.block ?_
   refine At.keep (ts := [1, 69, 70, 71]) (ids := [1]) rfl rfl ?_
   refine W.len (t := 69) rfl (fun (hn5 : p0.Rows.length ≤ maxLen) => ?_)
   refine W.rangeGo H (fun i5 (s5 : Unit) => [(1, .lp 1 0), (69, roL 5 enc_Row p0.Rows), (70, .int .i64 (((p0.Rows.length : Nat) : Int))), (71, .int .i64 ((i5 : Int)))]) (fun i5 (s5 : Unit) => [(1, .cells [.int .i64 (p0.Source), .int .i64 (p0.Night), .int .i64 (p0.Known), .int .i64 (p0.Until), roL 5 enc_Row p0.Rows, .int .i64 (p0.Off.Num), .int .i64 (p0.Off.Den), .int .i64 (p0.Light.Lo), .int .i64 (p0.Light.Hi)])]) (.cons .q (.cons .q (.cons .qi (.cons .qi .nil)))) (.cons .q .nil) (fun k5 i5 s5 hle5 H1 H2 K0 hK5 => ?_)
   refine W.rg env [1, 69, 70, 71, 72] [1] ?_
   refine W.seq ?_
   refine W.cond rfl (fun hb6 => ?_) (fun hb6 => ?_)
   · have hi5 : i5 < p0.Rows.length := by have := of_decide_eq_true hb6; omega
     have H := H1 hi5
     refine W.skip ?_
     refine At.thenC ?_
     refine W.seq ?_
     refine W.block ?_
     refine W.sr env [] [] [1, 3, 4, 69, 70, 71] [1, 4] rfl rfl rfl (.cons (⟨by omega, by omega⟩ : 0 ≤ (i5 : Int) ∧ (i5 : Int) < ((p0.Rows.length : Nat) : Int)) .nil) .nil ?_
     refine W.seq ?_
     obtain ⟨y7, hy8, H⟩ := of_bindO H
     obtain ⟨hc9, H⟩ := of_must H
     obtain ⟨hc10, H⟩ := of_must H
     obtain ⟨hc11, H⟩ := of_must H
     obtain ⟨hc12, H⟩ := of_must H
     obtain ⟨y13, hy14, H⟩ := of_bindO H
     refine W.region env [] [⟨.bool (y7), [], 0, []⟩, ⟨.int .i64 (y13), [], 0, []⟩] rfl rfl (by kernel_rfl) (.cons (fun h => h) (.cons (fun h => h) (.cons (fun h => h) (.cons hc9 (.cons (fun h => h) (.cons hc10 (.cons (fun h => h) (.cons (fun h => h) (.cons (fun h => h) (.cons (fun h => h) (.cons (fun h => h) (.cons (fun h => h) (.cons (fun h => h) (.cons (fun h => h) (.cons (fun h => h) (.cons hc11 (.cons (fun h => h) (.cons hc12 (.cons (fun h => h) (.cons (fun h => h) (.cons (fun h => h) (.cons (fun h => h) (.cons (fun h => h) (.cons (fun h => h) (.cons (fun h => h) (.cons (fun h => h) (.cons (fun h => h) (.cons (fun hW h => by revert hW h; first | (simp +contextual; done) | grind) (.cons (fun h => h) (.cons (fun hW h => by revert hW h; first | (simp +contextual; done) | grind) (.cons (fun h => by rw [h]; rfl) .nil))))))))))))))))))))))))))))))) (.free (c_moon_isRow (p0.Rows.getD i5 default) hy8) (.on (fun hW => c_moon_compare fuel ((p0.Rows.getD (((i5 : Int) - 1)).toNat default).Bearing) ((p0.Rows.getD i5 default).Bearing) (of_true hy14 hW)) .nil)) (At.keep (ts := [1, 69, 70, 71, 107]) (ids := [1]) rfl rfl ?_)
     refine At.thenC ?_
     refine W.cond rfl (fun hb15 => ?_) (fun hb15 => ?_)
     · have H := of_true H hb15
       refine W.rg env [2] [] ?_
       refine W.ret ?_
       refine At.rinb ?_
       refine At.rthen ?_
       refine At.rthen ?_
       refine At.rinb ?_
       refine At.rthen ?_
       cases H
       exact At.ret env.ty rfl rfl (fun q hq => by cases hq) (.refl _) hval
     · have H := of_false H hb15
       refine W.skip ?_
       refine At.inb ?_
       refine At.thenC ?_
       refine W.region env [] [] rfl rfl rfl (.cons (by unfold inI; have := hn5; (try unfold maxLen at this); omega) .nil) .nil (At.keep (ts := [1, 69, 70, 71]) (ids := [1]) rfl rfl ?_)
       refine At.thenK (At.keep (ts := [1, 69, 70, 71]) (ids := [1]) rfl rfl ?_)
       exact At.conv (.cons .q (.cons .q (.cons .qi (.cons .qi .nil)))) (.cons .q .nil) (hK5 hi5 () H)
   · have H := H2 (by have := of_decide_eq_false hb6; omega)
     refine W.exit ?_
     refine At.xthen ?_
     refine At.xthen ?_
     refine At.xhere ?_
     refine At.thenC ?_
     refine W.seq ?_
     obtain ⟨hc16, H⟩ := of_must H
     obtain ⟨hc17, H⟩ := of_must H
     obtain ⟨hc18, H⟩ := of_must H
     refine W.sr env [] [] [126] [] rfl rfl rfl (.cons hc16 (.cons (fun h => h) (.cons (fun h => h) (.cons (fun h => h) (.cons hc17 (.cons (fun h => h) (.cons hc18 (.cons (fun h => h) (.cons (fun h => h) (.cons (fun h => h) (.cons (fun h => h) (.cons (fun h => h) (.cons (fun h => by rw [h]; rfl) .nil))))))))))))) .nil ?_
     refine W.cond rfl (fun hb19 => ?_) (fun hb19 => ?_)
     · have H := of_true H hb19
       refine W.rg env [2] [] ?_
       refine W.ret ?_
       refine At.rthen ?_
       cases H
       exact At.ret env.ty rfl rfl (fun q hq => by cases hq) (.refl _) hval
     · have H := of_false H hb19
       refine W.skip ?_
       refine At.thenC ?_
       refine W.rg env [2] [] ?_
       refine W.ret ?_
       cases H
       exact At.ret env.ty rfl rfl (fun q hq => by cases hq) (.refl _) hval
theorem c_moon_isMinute (p0 : Int) : Ctr Try.prog 36 [.int .i64 (p0)] (.bool ((moon_isMinute p0))) := by
 obtain ⟨r, H⟩ : ∃ r, moon_isMinute p0 = r := ⟨_, rfl⟩
 rw [H]
 unfold moon_isMinute at H
 refine Ctr.of_body (N := 5) Try.func36 (by kernel_rfl) (c := _) rfl Try.ntmps36 rfl (fun w0 h0 hval => ?_)
 refine W.rg env [0] [] ?_
 refine W.sr env [] [⟨.bool ((moon_within p0 0 1439)), [], 0, []⟩] [2] [] rfl rfl rfl .nil (.free (c_moon_within p0 0 1439) .nil) ?_
 refine W.ret ?_
 cases H
 exact At.ret env.ty rfl rfl (fun q hq => by cases hq) (.refl _) hval
theorem c_moon_CheckSighting (p0 : Sighting) : Ctr Try.prog 22 [.agg [.int .i64 (p0.Source), .int .i64 (p0.Night), .int .i64 (p0.Minute), .bool (p0.Above), .int .i64 (p0.Known), .int .i64 (p0.Until)]] (.int .i64 ((moon_CheckSighting p0))) := by
 obtain ⟨r, H⟩ : ∃ r, moon_CheckSighting p0 = r := ⟨_, rfl⟩
 rw [H]
 unfold moon_CheckSighting at H
 refine Ctr.of_body (N := 27) Try.func22 (by kernel_rfl) (c := _) rfl Try.ntmps22 rfl (fun w0 h0 hval => ?_)
 refine W.rg env [1] [1] ?_
 refine W.seq ?_
 refine W.sr env [] [⟨.bool ((moon_within p0.Source 1 99999)), [], 0, []⟩, ⟨.bool ((moon_isNight p0.Night)), [], 0, []⟩, ⟨.bool ((moon_isMinute p0.Minute)), [], 0, []⟩, ⟨.bool ((moon_lasts p0.Known p0.Until)), [], 0, []⟩] [26] [] rfl rfl rfl (.cons (fun h => h) (.cons (fun h => h) (.cons (fun h => h) (.cons (fun h => by rw [h]; rfl) (.cons (fun h => h) (.cons (fun h => h) (.cons (fun h => h) (.cons (fun h => by rw [h]; rfl) (.cons (fun h => h) (.cons (fun h => h) (.cons (fun h => h) (.cons (fun h => h) (.cons (fun h => h) (.cons (fun h => by rw [h]; rfl) .nil)))))))))))))) (.free (c_moon_within p0.Source 1 99999) (.on (fun hW => c_moon_isNight p0.Night) (.on (fun hW => c_moon_isMinute p0.Minute) (.on (fun hW => c_moon_lasts p0.Known p0.Until) .nil)))) ?_
 refine W.cond rfl (fun hb1 => ?_) (fun hb1 => ?_)
 · have H := of_true H hb1
   refine W.rg env [2] [] ?_
   refine W.ret ?_
   refine At.rthen ?_
   cases H
   exact At.ret env.ty rfl rfl (fun q hq => by cases hq) (.refl _) hval
 · have H := of_false H hb1
   refine W.skip ?_
   refine At.thenC ?_
   refine W.rg env [2] [] ?_
   refine W.ret ?_
   cases H
   exact At.ret env.ty rfl rfl (fun q hq => by cases hq) (.refl _) hval
theorem c_moon_Check (fuel : Nat) (p0 : Sky) {r : Int} (H : moon_Check fuel p0 = some r) : Ctr Try.prog 9 [.agg [roL 9 enc_Sheet p0.Sheets, roL 3 enc_Roof p0.Roofs, roL 6 enc_Sighting p0.Sightings]] (.int .i64 (r)) := by
 unfold moon_Check at H
 refine Ctr.of_body (N := 79) Try.func9 (by kernel_rfl) (c := _) rfl Try.ntmps9 rfl (fun w0 h0 hval => ?_)
 refine W.rg env [1] [1] ?_
 refine W.seq ?_
 refine W.seq ?_
 obtain ⟨y1, hy2, H⟩ := of_bindO H
 refine W.region env [] [⟨.bool (y1), [], 0, []⟩] rfl rfl rfl (.cons (fun h => h) (.cons (fun h => h) (.cons (fun h => h) (.cons (fun h => by rw [h]; rfl) (.cons (fun h => h) (.cons (fun h => h) (.cons (fun h => h) (.cons (fun h => by rw [h]; rfl) .nil)))))))) (.on (fun hW => c_moon_areRoofs p0.Roofs (of_true hy2 hW)) .nil) (At.keep (ts := [1, 22]) (ids := [1]) rfl rfl ?_)
 refine At.thenC ?_
 refine W.cond rfl (fun hb3 => ?_) (fun hb3 => ?_)
 · have H := of_true H hb3
   refine W.rg env [2] [] ?_
   refine W.ret ?_
   refine At.rthen ?_
   cases H
   exact At.ret env.ty rfl rfl (fun q hq => by cases hq) (.refl _) hval
 · have H := of_false H hb3
   refine W.skip ?_
   refine At.thenC ?_
   refine W.seq ?_
   refine W.rg env [1, 24, 25, 26] [1] ?_
   refine W.block ?_
   refine At.keep (ts := [1, 24, 25, 26]) (ids := [1]) rfl rfl ?_
   refine W.len (t := 24) rfl (fun (hn4 : p0.Sheets.length ≤ maxLen) => ?_)
   refine W.rangeGo H (fun i4 (s4 : Unit) => [(1, .lp 1 0), (24, roL 9 enc_Sheet p0.Sheets), (25, .int .i64 (((p0.Sheets.length : Nat) : Int))), (26, .int .i64 ((i4 : Int)))]) (fun i4 (s4 : Unit) => [(1, .cells [roL 9 enc_Sheet p0.Sheets, roL 3 enc_Roof p0.Roofs, roL 6 enc_Sighting p0.Sightings])]) (.cons .q (.cons .q (.cons .qi (.cons .qi .nil)))) (.cons .q .nil) (fun k4 i4 s4 hle4 H1 H2 K0 hK4 => ?_)
   refine W.rg env [1, 24, 25, 26, 27] [1] ?_
   refine W.seq ?_
   refine W.cond rfl (fun hb5 => ?_) (fun hb5 => ?_)
   · have hi4 : i4 < p0.Sheets.length := by have := of_decide_eq_true hb5; omega
     have H := H1 hi4
     refine W.skip ?_
     refine At.thenC ?_
     refine W.seq ?_
     refine W.block ?_
     refine W.sr env [] [] [1, 3, 4, 24, 25, 26] [1, 4] rfl rfl rfl (.cons (⟨by omega, by omega⟩ : 0 ≤ (i4 : Int) ∧ (i4 : Int) < ((p0.Sheets.length : Nat) : Int)) .nil) .nil ?_
     refine W.seq ?_
     obtain ⟨y6, hy7, H⟩ := of_bindO H
     obtain ⟨hc8, H⟩ := of_must H
     obtain ⟨hc9, H⟩ := of_must H
     refine W.region env [] [⟨.int .i64 (y6), [], 0, []⟩] rfl rfl (by kernel_rfl) (.cons (fun h => h) (.cons (fun h => h) (.cons (fun h => h) (.cons hc8 (.cons (fun h => h) (.cons hc9 (.cons (fun h => h) (.cons (fun h => h) (.cons (fun h => h) (.cons (fun h => h) (.cons (fun h => h) (.cons (fun h => h) (.cons (fun h => h) (.cons (fun h => h) (.cons (fun hW h => by revert hW h; first | (simp +contextual; done) | grind) (.cons (fun h => by rw [h]; rfl) .nil)))))))))))))))) (.free (c_moon_CheckSheet fuel (p0.Sheets.getD i4 default) hy7) .nil) (At.keep (ts := [1, 24, 25, 26, 49]) (ids := [1]) rfl rfl ?_)
     refine At.thenC ?_
     refine W.cond rfl (fun hb10 => ?_) (fun hb10 => ?_)
     · have H := of_true H hb10
       refine W.rg env [2] [] ?_
       refine W.ret ?_
       refine At.rinb ?_
       refine At.rthen ?_
       refine At.rthen ?_
       refine At.rinb ?_
       refine At.rthen ?_
       cases H
       exact At.ret env.ty rfl rfl (fun q hq => by cases hq) (.refl _) hval
     · have H := of_false H hb10
       refine W.skip ?_
       refine At.inb ?_
       refine At.thenC ?_
       refine W.region env [] [] rfl rfl rfl (.cons (by unfold inI; have := hn4; (try unfold maxLen at this); omega) .nil) .nil (At.keep (ts := [1, 24, 25, 26]) (ids := [1]) rfl rfl ?_)
       refine At.thenK (At.keep (ts := [1, 24, 25, 26]) (ids := [1]) rfl rfl ?_)
       exact At.conv (.cons .q (.cons .q (.cons .qi (.cons .qi .nil)))) (.cons .q .nil) (hK4 hi4 () H)
   · have H := H2 (by have := of_decide_eq_false hb5; omega)
     refine W.exit ?_
     refine At.xthen ?_
     refine At.xthen ?_
     refine At.xhere ?_
     refine At.thenC ?_
     refine W.seq ?_
     refine W.rg env [1, 52, 53, 54] [1] ?_
     refine W.block ?_
     refine At.keep (ts := [1, 52, 53, 54]) (ids := [1]) rfl rfl ?_
     refine W.len (t := 52) rfl (fun (hn11 : p0.Sightings.length ≤ maxLen) => ?_)
     refine W.rangeGo H (fun i11 (s11 : Unit) => [(1, .lp 1 0), (52, roL 6 enc_Sighting p0.Sightings), (53, .int .i64 (((p0.Sightings.length : Nat) : Int))), (54, .int .i64 ((i11 : Int)))]) (fun i11 (s11 : Unit) => [(1, .cells [roL 9 enc_Sheet p0.Sheets, roL 3 enc_Roof p0.Roofs, roL 6 enc_Sighting p0.Sightings])]) (.cons .q (.cons .q (.cons .qi (.cons .qi .nil)))) (.cons .q .nil) (fun k11 i11 s11 hle11 H1 H2 K0 hK11 => ?_)
     refine W.rg env [1, 52, 53, 54, 55] [1] ?_
     refine W.seq ?_
     refine W.cond rfl (fun hb12 => ?_) (fun hb12 => ?_)
     · have hi11 : i11 < p0.Sightings.length := by have := of_decide_eq_true hb12; omega
       have H := H1 hi11
       refine W.skip ?_
       refine At.thenC ?_
       refine W.seq ?_
       refine W.block ?_
       refine W.sr env [] [] [1, 5, 6, 52, 53, 54] [1, 6] rfl rfl rfl (.cons (⟨by omega, by omega⟩ : 0 ≤ (i11 : Int) ∧ (i11 : Int) < ((p0.Sightings.length : Nat) : Int)) .nil) .nil ?_
       obtain ⟨hc13, H⟩ := of_must H
       obtain ⟨hc14, H⟩ := of_must H
       refine W.sr env [] [⟨.int .i64 ((moon_CheckSighting (p0.Sightings.getD i11 default))), [], 0, []⟩] [1, 52, 53, 54, 77] [1] rfl rfl (by kernel_rfl) (.cons (fun h => h) (.cons (fun h => h) (.cons (fun h => h) (.cons hc13 (.cons (fun h => h) (.cons hc14 (.cons (fun h => h) (.cons (fun h => h) (.cons (fun h => h) (.cons (fun h => h) (.cons (fun h => h) (.cons (fun h => h) (.cons (fun h => h) (.cons (fun h => h) (.cons (fun hW h => by revert hW h; first | (simp +contextual; done) | grind) (.cons (fun h => by rw [h]; rfl) .nil)))))))))))))))) (.free (c_moon_CheckSighting (p0.Sightings.getD i11 default)) .nil) ?_
       refine W.cond rfl (fun hb15 => ?_) (fun hb15 => ?_)
       · have H := of_true H hb15
         refine W.rg env [2] [] ?_
         refine W.ret ?_
         refine At.rinb ?_
         refine At.rthen ?_
         refine At.rthen ?_
         refine At.rinb ?_
         refine At.rthen ?_
         cases H
         exact At.ret env.ty rfl rfl (fun q hq => by cases hq) (.refl _) hval
       · have H := of_false H hb15
         refine W.skip ?_
         refine At.inb ?_
         refine At.thenC ?_
         refine W.region env [] [] rfl rfl rfl (.cons (by unfold inI; have := hn11; (try unfold maxLen at this); omega) .nil) .nil (At.keep (ts := [1, 52, 53, 54]) (ids := [1]) rfl rfl ?_)
         refine At.thenK (At.keep (ts := [1, 52, 53, 54]) (ids := [1]) rfl rfl ?_)
         exact At.conv (.cons .q (.cons .q (.cons .qi (.cons .qi .nil)))) (.cons .q .nil) (hK11 hi11 () H)
     · have H := H2 (by have := of_decide_eq_false hb12; omega)
       refine W.exit ?_
       refine At.xthen ?_
       refine At.xthen ?_
       refine At.xhere ?_
       refine At.thenC ?_
       refine W.rg env [2] [] ?_
       refine W.ret ?_
       cases H
       exact At.ret env.ty rfl rfl (fun q hq => by cases hq) (.refl _) hval
theorem c_moon_counts (p0 : Int) (p1 : Int) (p2 : Int) : Ctr Try.prog 71 [.int .i64 (p0), .int .i64 (p1), .int .i64 (p2)] (.bool ((moon_counts p0 p1 p2))) := by
 obtain ⟨r, H⟩ : ∃ r, moon_counts p0 p1 p2 = r := ⟨_, rfl⟩
 rw [H]
 unfold moon_counts at H
 refine Ctr.of_body (N := 19) Try.func71 (by kernel_rfl) (c := _) rfl Try.ntmps71 rfl (fun w0 h0 hval => ?_)
 refine W.rg env [0, 1, 2] [] ?_
 refine W.sr env [] [] [6] [] rfl rfl rfl (.cons (fun h => h) (.cons (fun h => h) (.cons (fun h => h) (.cons (fun h => h) (.cons (fun h => h) (.cons (fun hW h => by revert hW h; first | (simp +contextual; done) | grind) (.cons (fun h => h) .nil))))))) .nil ?_
 refine W.ret ?_
 cases H
 exact At.ret env.ty rfl rfl (fun q hq => by cases hq) (.refl _) hval
theorem c_moon_inForce (p0 : Sky) (p1 : Int) (p2 : Int) {r : (Sheet × Bool)} (H : moon_inForce p0 p1 p2 = some r) : Ctr Try.prog 46 [.agg [roL 9 enc_Sheet p0.Sheets, roL 3 enc_Roof p0.Roofs, roL 6 enc_Sighting p0.Sightings], .int .i64 (p1), .int .i64 (p2)] (.tup [.agg [.int .i64 (r.1.Source), .int .i64 (r.1.Night), .int .i64 (r.1.Known), .int .i64 (r.1.Until), roL 5 enc_Row r.1.Rows, .int .i64 (r.1.Off.Num), .int .i64 (r.1.Off.Den), .int .i64 (r.1.Light.Lo), .int .i64 (r.1.Light.Hi)], .bool (r.2)]) := by
 unfold moon_inForce at H
 refine Ctr.of_body (N := 44) Try.func46 (by kernel_rfl) (c := _) rfl Try.ntmps46 rfl (fun w0 h0 hval => ?_)
 refine W.rg env [1, 2, 3, 6, 7] [3, 6] ?_
 refine W.seq ?_
 refine W.rg env [1, 2, 6, 7, 11, 12, 13] [6] ?_
 refine W.block ?_
 refine At.keep (ts := [1, 2, 6, 7, 11, 12, 13]) (ids := [6]) rfl rfl ?_
 refine W.len (t := 11) rfl (fun (hn1 : p0.Sheets.length ≤ maxLen) => ?_)
 refine W.rangeGo H (fun i1 (s1 : Bool × Sheet) => [(1, .int .i64 (p1)), (2, .int .i64 (p2)), (6, .lp 6 0), (7, .bool (s1.1)), (11, roL 9 enc_Sheet p0.Sheets), (12, .int .i64 (((p0.Sheets.length : Nat) : Int))), (13, .int .i64 ((i1 : Int)))]) (fun i1 (s1 : Bool × Sheet) => [(6, .cells [.int .i64 (s1.2.Source), .int .i64 (s1.2.Night), .int .i64 (s1.2.Known), .int .i64 (s1.2.Until), roL 5 enc_Row s1.2.Rows, .int .i64 (s1.2.Off.Num), .int .i64 (s1.2.Off.Den), .int .i64 (s1.2.Light.Lo), .int .i64 (s1.2.Light.Hi)])]) (.cons .qi (.cons .qi (.cons .q (.cons .q (.cons .q (.cons .qi (.cons .qi .nil))))))) (.cons (BSim.cells (.cons .q (.cons .q (.cons .q (.cons .q (.cons (by first | exact Sim.refl _ | exact Sim.nil _ _) (.cons .q (.cons .q (.cons .q (.cons .q .nil)))))))))) .nil) (fun k1 i1 s1 hle1 H1 H2 K0 hK1 => ?_)
 refine W.rg env [1, 2, 6, 7, 11, 12, 13, 14] [6] ?_
 refine W.seq ?_
 refine W.cond rfl (fun hb2 => ?_) (fun hb2 => ?_)
 · have hi1 : i1 < p0.Sheets.length := by have := of_decide_eq_true hb2; omega
   have H := H1 hi1
   refine W.skip ?_
   refine At.thenC ?_
   refine W.seq ?_
   refine W.block ?_
   refine W.sr env [] [] [1, 2, 6, 7, 9, 11, 12, 13] [6, 9] rfl rfl rfl (.cons (⟨by omega, by omega⟩ : 0 ≤ (i1 : Int) ∧ (i1 : Int) < ((p0.Sheets.length : Nat) : Int)) .nil) .nil ?_
   refine W.sr env [] [⟨.bool ((moon_counts ((p0.Sheets.getD i1 default).Known) ((p0.Sheets.getD i1 default).Until) p2)), [], 0, []⟩] [1, 2, 6, 7, 9, 11, 12, 13, 39] [6, 9] rfl rfl rfl (.cons (fun h => h) (.cons (fun h => h) (.cons (fun h => h) (.cons (fun h => h) (.cons (fun h => h) (.cons (fun h => h) (.cons (fun h => h) (.cons (fun h => h) (.cons (fun h => h) (.cons (fun h => h) (.cons (fun h => h) (.cons (fun h => h) (.cons (fun h => h) (.cons (fun hW h => by revert hW h; first | (simp +contextual; done) | grind) (.cons (fun h => h) .nil))))))))))))))) (.on (fun hW => c_moon_counts ((p0.Sheets.getD i1 default).Known) ((p0.Sheets.getD i1 default).Until) p2) .nil) ?_
   refine W.cond rfl (fun hb3 => ?_) (fun hb3 => ?_)
   · have H := of_true H hb3
     refine W.region env [] [] rfl rfl rfl .nil .nil (At.keep (ts := [1, 2, 6, 7, 11, 12, 13]) (ids := [6]) rfl rfl ?_)
     refine At.inb ?_
     refine At.thenC ?_
     refine W.region env [] [] rfl rfl rfl (.cons (by unfold inI; have := hn1; (try unfold maxLen at this); omega) .nil) .nil (At.keep (ts := [1, 2, 6, 7, 11, 12, 13]) (ids := [6]) rfl rfl ?_)
     refine At.thenK (At.keep (ts := [1, 2, 6, 7, 11, 12, 13]) (ids := [6]) rfl rfl ?_)
     exact At.conv (.cons .qi (.cons .qi (.cons .q (.cons .q (.cons .q (.cons .qi (.cons .qi .nil))))))) (.cons .q .nil) (hK1 hi1 (true, (p0.Sheets.getD i1 default)) H)
   · have H := of_false H hb3
     refine W.skip ?_
     refine At.inb ?_
     refine At.thenC ?_
     refine W.region env [] [] rfl rfl rfl (.cons (by unfold inI; have := hn1; (try unfold maxLen at this); omega) .nil) .nil (At.keep (ts := [1, 2, 6, 7, 11, 12, 13]) (ids := [6]) rfl rfl ?_)
     refine At.thenK (At.keep (ts := [1, 2, 6, 7, 11, 12, 13]) (ids := [6]) rfl rfl ?_)
     exact At.conv (.cons .qi (.cons .qi (.cons .q (.cons .q (.cons .q (.cons .qi (.cons .qi .nil))))))) (.cons .q .nil) (hK1 hi1 (s1.1, s1.2) H)
 · have H := H2 (by have := of_decide_eq_false hb2; omega)
   refine W.exit ?_
   refine At.xthen ?_
   refine At.xthen ?_
   refine At.xhere ?_
   refine At.thenC ?_
   refine W.rg env [6, 7] [6] ?_
   refine W.ret ?_
   cases H
   exact At.ret env.ty rfl rfl (fun q hq => by cases hq) (.refl _) hval
theorem c_slices_Clone_Sighting (p0 : (List Sighting)) {r : (List Sighting)} (H : slices_Clone_Sighting p0 = some r) : Ctr Try.prog 73 [roL 6 enc_Sighting p0] (roL 6 enc_Sighting r) := by
 unfold slices_Clone_Sighting at H
 refine Ctr.of_body (N := 8) Try.func73 (by kernel_rfl) (c := _) rfl Try.ntmps73 rfl (fun w0 h0 hval => ?_)
 refine W.rg env [0] [] ?_
 refine W.seq ?_
 refine W.rg env [0, 4] [] ?_
 refine W.condNz rfl (fun hz => ?_) ?_
 · obtain rfl : p0 = [] := List.length_eq_zero_iff.1 hz
   obtain ⟨hc1, H⟩ := of_must H
   refine W.rg env [2] [] ?_
   refine W.ret ?_
   refine At.rthen ?_
   cases H
   exact At.ret env.ty rfl rfl (fun q hq => by cases hq) (Sim.nil _ _) hval
 · refine W.skip ?_
   refine At.thenC ?_
   refine W.seq ?_
   obtain ⟨hc1, H⟩ := of_must H
   refine W.region env [5] [] rfl rfl rfl (.cons (⟨by first | rfl | (simp; done) | omega | (simp; omega), by have := hc1; first | simpa using this | (unfold room at this ⊢; simp at this ⊢; omega)⟩) .nil) .nil (At.keep (ts := [2]) (ids := [5]) rfl rfl ?_)
   refine At.convM (.cons (y := bufL 48 6 enc_Sighting (([] : List Sighting) ++ p0)) (BSim.seg (Seg.push (Seg.lit (f := enc_Sighting) (sz := 6) ([] : List Sighting) rfl rfl (fun _ => rfl)) (Seg.refl enc_Sighting p0))) .nil) ?_
   refine At.thenC ?_
   refine W.ret ?_
   cases H
   exact At.ret env.ty rfl rfl (fun q hq => by cases hq; exact (by first | rfl | (simp; done) | omega | (simp; omega))) (.refl _) hval
theorem c_slices_IndexFunc_Sighting (p0 : (List Sighting)) (p1 : Sighting → Option Bool) (p1_g : Nat) (p1_a p1_b : List AV) (p1_h : ∀ x0 r, p1 x0 = some r → Ctr Try.prog p1_g (p1_a ++ ([.agg [.int .i64 (x0.Source), .int .i64 (x0.Night), .int .i64 (x0.Minute), .bool (x0.Above), .int .i64 (x0.Known), .int .i64 (x0.Until)]] ++ p1_b)) (.bool (r))) {r : Int} (H : slices_IndexFunc_Sighting p0 p1 = some r) : Ctr Try.prog 85 [roL 6 enc_Sighting p0, .clo (.func p1_g) p1_a p1_b] (.int .i64 (r)) := by
 unfold slices_IndexFunc_Sighting at H
 refine Ctr.of_body (N := 19) Try.func85 (by kernel_rfl) (c := _) rfl Try.ntmps85 rfl (fun w0 h0 hval => ?_)
 refine W.rg env [0, 1] [] ?_
 refine W.seq ?_
 refine W.rg env [0, 1, 7, 8] [] ?_
 refine W.block ?_
 refine At.keep (ts := [0, 1, 7, 8]) (ids := []) rfl rfl ?_
 refine W.len (t := 0) rfl (fun (hn1 : p0.length ≤ maxLen) => ?_)
 refine W.rangeGo H (fun i1 (s1 : Unit) => [(0, roL 6 enc_Sighting p0), (1, .clo (.func p1_g) p1_a p1_b), (7, .int .i64 (((p0.length : Nat) : Int))), (8, .int .i64 ((i1 : Int)))]) (fun i1 (s1 : Unit) => []) (.cons .q (.cons .q (.cons .qi (.cons .qi .nil)))) .nil (fun k1 i1 s1 hle1 H1 H2 K0 hK1 => ?_)
 refine W.rg env [0, 1, 7, 8, 9] [] ?_
 refine W.seq ?_
 refine W.cond rfl (fun hb2 => ?_) (fun hb2 => ?_)
 · have hi1 : i1 < p0.length := by have := of_decide_eq_true hb2; omega
   have H := H1 hi1
   refine W.skip ?_
   refine At.thenC ?_
   refine W.seq ?_
   refine W.block ?_
   refine W.rg env [0, 1, 5, 7, 8] [] ?_
   refine W.seq ?_
   obtain ⟨y3, hy4, H⟩ := of_bindO H
   refine W.region env [] [⟨.bool (y3), [], 0, []⟩] rfl rfl rfl (.cons (⟨by omega, by omega⟩ : 0 ≤ (i1 : Int) ∧ (i1 : Int) < ((p0.length : Nat) : Int)) .nil) (.free (p1_h (p0.getD i1 default) _ hy4) .nil) (At.keep (ts := [0, 1, 5, 7, 8, 16]) (ids := []) rfl rfl ?_)
   refine At.thenC ?_
   refine W.cond rfl (fun hb5 => ?_) (fun hb5 => ?_)
   · have H := of_true H hb5
     refine W.rg env [4] [] ?_
     refine W.ret ?_
     refine At.rinb ?_
     refine At.rthen ?_
     refine At.rthen ?_
     refine At.rinb ?_
     refine At.rthen ?_
     cases H
     exact At.ret env.ty rfl rfl (fun q hq => by cases hq) (.refl _) hval
   · have H := of_false H hb5
     refine W.skip ?_
     refine At.inb ?_
     refine At.thenC ?_
     refine W.region env [] [] rfl rfl rfl (.cons (by unfold inI; have := hn1; (try unfold maxLen at this); omega) .nil) .nil (At.keep (ts := [0, 1, 7, 8]) (ids := []) rfl rfl ?_)
     refine At.thenK (At.keep (ts := [0, 1, 7, 8]) (ids := []) rfl rfl ?_)
     exact At.conv (.cons .q (.cons .q (.cons .qi (.cons .qi .nil)))) .nil (hK1 hi1 () H)
 · have H := H2 (by have := of_decide_eq_false hb2; omega)
   refine W.exit ?_
   refine At.xthen ?_
   refine At.xthen ?_
   refine At.xhere ?_
   refine At.thenC ?_
   refine W.rg env [4] [] ?_
   refine W.ret ?_
   cases H
   exact At.ret env.ty rfl rfl (fun q hq => by cases hq) (.refl _) hval
theorem co_slices_DeleteFunc_Sighting (fuel : Nat) (p0 : (List Sighting)) (p1 : Sighting → Option Bool) (p1_g : Nat) (p1_a p1_b : List AV) (p1_h : ∀ x0 r, p1 x0 = some r → Ctr Try.prog p1_g (p1_a ++ ([.agg [.int .i64 (x0.Source), .int .i64 (x0.Night), .int .i64 (x0.Minute), .bool (x0.Above), .int .i64 (x0.Known), .int .i64 (x0.Until)]] ++ p1_b)) (.bool (r))) {r : (List Sighting)} (H : slices_DeleteFunc_Sighting fuel p0 p1 = some r) : CtrO Try.prog 72 [.buf 700 (p0).length, .clo (.func p1_g) p1_a p1_b] [(700, bufL 48 6 enc_Sighting p0)] (.buf 900 r.length) [(900, bufL 48 6 enc_Sighting r)] := by
 unfold slices_DeleteFunc_Sighting at H
 refine CtrO.of_body (N := 42) Try.func72 (by kernel_rfl) (c := _) rfl Try.ntmps72 rfl (fun w0 h0 ρb hval hdom => ?_)
 refine W.rg env [0, 1] [700] ?_
 refine W.seq ?_
 obtain ⟨y1, hy2, H⟩ := of_bindO H
 refine W.region env [] [⟨.int .i64 (y1), [], 0, []⟩] rfl rfl rfl (.cons (by first | rfl | (simp; done) | omega | (simp; omega)) .nil) (.free (c_slices_IndexFunc_Sighting p0 p1 p1_g p1_a p1_b p1_h hy2) .nil) (At.keep (ts := [0, 1, 5]) (ids := [700]) rfl rfl ?_)
 refine At.thenC ?_
 refine W.seq ?_
 refine W.rg env [0, 1, 5, 12] [700] ?_
 refine W.cond rfl (fun hb3 => ?_) (fun hb3 => ?_)
 · have H := of_true H hb3
   refine W.rg env [4] [700] ?_
   refine W.ret ?_
   refine At.rthen ?_
   cases H
   exact At.retK env.ty [700] 200 rfl rfl rfl rfl (.cons (.refl _) .nil) (.of_eq (by refine bufEq ?_; first | (simp [copyAt]; done) | omega | (simp [copyAt]; omega) | rfl)) hval hdom rfl
 · have H := of_false H hb3
   refine W.skip ?_
   refine At.thenC ?_
   refine W.seq ?_
   obtain ⟨hc4, H⟩ := of_must H
   refine W.sr env [] [] [0, 1, 5, 6] [700] rfl rfl rfl (.cons hc4 .nil) .nil ?_
   refine W.block ?_
   refine At.keep (ts := [0, 1, 5, 6]) (ids := [700]) rfl rfl ?_
   refine W.loopGo H (fun (s5 : Int × Int × (List Sighting)) => [(0, .buf 700 (s5.2.2).length), (1, .clo (.func p1_g) p1_a p1_b), (5, .int .i64 (s5.1)), (6, .int .i64 (s5.2.1))]) (fun (s5 : Int × Int × (List Sighting)) => [(700, bufL 48 6 enc_Sighting s5.2.2)]) (.cons .qb (.cons .q (.cons .qi (.cons .qi .nil)))) (.cons .q .nil) (fun k5 s5 H K0 hK5 => ?_)
   refine W.seq ?_
   refine W.sr env [] [] [0, 1, 5, 6, 19] [700] rfl rfl rfl (.cons (by first | rfl | (simp; done) | omega | (simp; omega)) .nil) .nil ?_
   refine W.cond rfl (fun hb6 => ?_) (fun hb6 => ?_)
   · have H := of_true H hb6
     refine W.skip ?_
     refine At.thenC ?_
     refine W.seq ?_
     refine W.block ?_
     obtain ⟨hc7, H⟩ := of_must H
     refine W.sr env [] [] [0, 1, 5, 6, 7] [7, 700] rfl rfl rfl (.cons (⟨by first | rfl | (simp; done) | omega | (simp; omega), hc7⟩) (.cons (⟨by first | rfl | (simp; done) | omega | (simp; omega), (by have := hc7; first | omega | (simp only [List.length_set]; omega) | (simp only [Int.toNat_natCast] at *; omega) | (simp at this ⊢; omega))⟩) .nil)) .nil ?_
     refine W.seq ?_
     obtain ⟨y8, hy9, H⟩ := of_bindO H
     refine W.region env [] [⟨.bool (y8), [], 0, []⟩] rfl rfl rfl .nil (.free (p1_h (s5.2.2.getD (s5.2.1).toNat default) _ hy9) .nil) (At.keep (ts := [0, 1, 5, 6, 7, 29]) (ids := [7, 700]) rfl rfl ?_)
     refine At.thenC ?_
     refine W.cond rfl (fun hb10 => ?_) (fun hb10 => ?_)
     · have H := of_true H hb10
       refine W.seq ?_
       obtain ⟨hc11, H⟩ := of_must H
       refine W.region env [] [] rfl rfl rfl (.cons (⟨by first | rfl | (simp; done) | omega | (simp; omega), hc11⟩) (.cons (⟨by first | rfl | (simp; done) | omega | (simp; omega), (by have := hc11; first | omega | (simp only [List.length_set]; omega) | (simp only [Int.toNat_natCast] at *; omega) | (simp at this ⊢; omega))⟩) .nil)) .nil (At.keep (ts := [0, 1, 5, 6]) (ids := [700]) rfl rfl ?_)
       refine At.convM (.cons (y := bufL 48 6 enc_Sighting (s5.2.2.set (s5.1).toNat (s5.2.2.getD (s5.2.1).toNat default))) (BSim.seg (Seg.set (Seg.refl enc_Sighting _) (s5.2.2.getD (s5.2.1).toNat default) rfl)) .nil) ?_
       refine At.thenC ?_
       obtain ⟨hc12, H⟩ := of_must H
       refine W.region env [] [] rfl rfl rfl (.cons hc12 .nil) .nil (At.keep (ts := [0, 1, 5, 6]) (ids := [700]) rfl rfl ?_)
       refine At.inb ?_
       refine At.thenC ?_
       obtain ⟨hc13, H⟩ := of_must H
       refine W.region env [] [] rfl rfl rfl (.cons hc13 .nil) .nil (At.keep (ts := [0, 1, 5, 6]) (ids := [700]) rfl rfl ?_)
       refine At.thenK (At.keep (ts := [0, 1, 5, 6]) (ids := [700]) rfl rfl ?_)
       exact At.conv (.cons .qb (.cons .q (.cons .qi (.cons .qi .nil)))) (.cons .q .nil) (hK5 ((s5.1 + 1), (s5.2.1 + 1), (s5.2.2.set (s5.1).toNat (s5.2.2.getD (s5.2.1).toNat default))) H)
     · have H := of_false H hb10
       refine W.skip ?_
       refine At.inb ?_
       refine At.thenC ?_
       obtain ⟨hc14, H⟩ := of_must H
       refine W.region env [] [] rfl rfl rfl (.cons hc14 .nil) .nil (At.keep (ts := [0, 1, 5, 6]) (ids := [700]) rfl rfl ?_)
       refine At.thenK (At.keep (ts := [0, 1, 5, 6]) (ids := [700]) rfl rfl ?_)
       exact At.conv (.cons .qb (.cons .q (.cons .qi (.cons .qi .nil)))) (.cons .q .nil) (hK5 (s5.1, (s5.2.1 + 1), s5.2.2) H)
   · have H := of_false H hb6
     refine W.exit ?_
     refine At.xthen ?_
     refine At.xthen ?_
     refine At.xhere ?_
     refine At.thenC ?_
     refine W.seq ?_
     obtain ⟨hc15, H⟩ := of_must H
     refine W.region env [] [] rfl rfl rfl (.cons (⟨by first | rfl | (simp; done) | omega | (simp; omega), hc15⟩) (.cons (⟨by first | rfl | (simp; done) | omega | (simp; omega), (by have := hc15; omega), (by have := hc15; omega)⟩) .nil)) .nil (At.keep (ts := [0, 5]) (ids := [700]) rfl rfl ?_)
     refine At.convM (.cons (y := bufL 48 6 enc_Sighting (copyAt s5.2.2 ((s5.1).toNat) (s5.2.2.length - (s5.1).toNat) (fun _ => (⟨0, 0, 0, false, 0, 0⟩ : Sighting)))) (BSim.seg (Seg.cleared (a := (s5.1).toNat) (b := s5.2.2.length) (Seg.refl enc_Sighting _) (⟨0, 0, 0, false, 0, 0⟩ : Sighting) rfl (by have := hc15; omega))) .nil) ?_
     refine At.thenC ?_
     obtain ⟨hc16, H⟩ := of_must H
     refine W.sr env [] [] [4] [700] rfl rfl rfl (.cons (⟨by first | rfl | (simp [length_copyAt]; done) | (simp [length_copyAt]; omega), hc16⟩) .nil) .nil ?_
     refine W.ret ?_
     cases H
     refine At.shrink 4 700 850 (K := []) (ts := []) rfl rfl (by first | rfl | (simp; done) | omega | (simp; omega)) (by have := hc16; omega) rfl rfl rfl rfl ?_
     refine At.convM (.cons (y := bufL 48 6 enc_Sighting ((copyAt s5.2.2 ((s5.1).toNat) (s5.2.2.length - (s5.1).toNat) (fun _ => (⟨0, 0, 0, false, 0, 0⟩ : Sighting))).take ((s5.1).toNat))) (BSim.seg (Seg.first (Seg.refl enc_Sighting _) (by have := hc16; omega))) .nil) ?_
     exact At.retK env.ty [850] 50 rfl rfl rfl rfl (.cons (.refl _) .nil) (.of_eq (by refine bufEq ?_; first | (simp [copyAt]; done) | omega | (simp [copyAt]; omega) | rfl)) hval hdom rfl
theorem co_slices_Clone_Sighting (p0 : (List Sighting)) {r : (List Sighting)} (H : slices_Clone_Sighting p0 = some r) : CtrO Try.prog 73 [roL 6 enc_Sighting p0] [] (.buf 900 r.length) [(900, bufL 48 6 enc_Sighting r)] := by
 unfold slices_Clone_Sighting at H
 refine CtrO.of_body (N := 8) Try.func73 (by kernel_rfl) (c := _) rfl Try.ntmps73 rfl (fun w0 h0 ρb hval hdom => ?_)
 refine W.rg env [0] [] ?_
 refine W.seq ?_
 refine W.rg env [0, 4] [] ?_
 refine W.condNz rfl (fun hz => ?_) ?_
 · obtain rfl : p0 = [] := List.length_eq_zero_iff.1 hz
   obtain ⟨hc1, H⟩ := of_must H
   refine W.rg env [2] [] ?_
   refine W.ret ?_
   refine At.rthen ?_
   cases H
   refine At.nilOwn 2 800 48 6 (e := fun i => enc_Sighting (([] : List Sighting).getD i default)) rfl rfl ?_
   exact At.retK env.ty [800] 100 rfl rfl rfl rfl (.cons (.refl _) .nil) (.of_eq (by refine bufEq ?_; first | (simp [copyAt]; done) | omega | (simp [copyAt]; omega) | rfl)) hval hdom rfl
 · refine W.skip ?_
   refine At.thenC ?_
   refine W.seq ?_
   obtain ⟨hc1, H⟩ := of_must H
   refine W.region env [5] [] rfl rfl rfl (.cons (⟨by first | rfl | (simp; done) | omega | (simp; omega), by have := hc1; first | simpa using this | (unfold room at this ⊢; simp at this ⊢; omega)⟩) .nil) .nil (At.keep (ts := [2]) (ids := [5]) rfl rfl ?_)
   refine At.convM (.cons (y := bufL 48 6 enc_Sighting (([] : List Sighting) ++ p0)) (BSim.seg (Seg.push (Seg.lit (f := enc_Sighting) (sz := 6) ([] : List Sighting) rfl rfl (fun _ => rfl)) (Seg.refl enc_Sighting p0))) .nil) ?_
   refine At.thenC ?_
   refine W.ret ?_
   cases H
   exact At.retK env.ty [5] 895 rfl rfl rfl rfl (.cons (.refl _) .nil) (.of_eq (by refine bufEq ?_; first | (simp [copyAt]; done) | omega | (simp [copyAt]; omega) | rfl)) hval hdom rfl
theorem c_moon_sighted_1 (p0 : Sighting) (c0 : Int) (c1 : Int) : Ctr Try.prog 74 [.agg [.int .i64 (p0.Source), .int .i64 (p0.Night), .int .i64 (p0.Minute), .bool (p0.Above), .int .i64 (p0.Known), .int .i64 (p0.Until)], .rp [.int .i64 (c0)], .rp [.int .i64 (c1)]] (.bool ((moon_sighted_1 p0 c0 c1))) := by
 obtain ⟨r, H⟩ : ∃ r, moon_sighted_1 p0 c0 c1 = r := ⟨_, rfl⟩
 rw [H]
 unfold moon_sighted_1 at H
 refine Ctr.of_body (N := 18) Try.func74 (by kernel_rfl) (c := _) rfl Try.ntmps74 rfl (fun w0 h0 hval => ?_)
 refine W.rg env [1, 2, 3] [3] ?_
 refine W.sr env [] [⟨.bool ((moon_counts p0.Known p0.Until c1)), [], 0, []⟩] [4] [] rfl rfl rfl (.cons (fun h => h) (.cons (fun h => h) (.cons (fun h => h) (.cons (fun h => h) (.cons (fun h => h) (.cons (fun h => h) (.cons (fun h => by rw [h]; rfl) .nil))))))) (.on (fun hW => c_moon_counts p0.Known p0.Until c1) .nil) ?_
 refine W.ret ?_
 cases H
 exact At.ret env.ty rfl rfl (fun q hq => by cases hq) (.refl _) hval
theorem c_moon_sighted (fuel : Nat) (p0 : Sky) (p1 : Int) (p2 : Int) {r : (List Sighting)} (H : moon_sighted fuel p0 p1 p2 = some r) : Ctr Try.prog 47 [.agg [roL 9 enc_Sheet p0.Sheets, roL 3 enc_Roof p0.Roofs, roL 6 enc_Sighting p0.Sightings], .int .i64 (p1), .int .i64 (p2)] (roL 6 enc_Sighting r) := by
 unfold moon_sighted at H
 refine Ctr.of_body (N := 12) Try.func47 (by kernel_rfl) (c := _) rfl Try.ntmps47 rfl (fun w0 h0 hval => ?_)
 refine W.rg env [3, 4, 5] [3, 4, 5] ?_
 refine W.seq ?_
 refine At.freezeC 4 (K := [3, 5]) (ts := [3, 4, 5]) rfl rfl rfl rfl rfl (fun _ h => h) ?_
 refine At.freezeC 5 (K := [3]) (ts := [3, 4, 5]) rfl rfl rfl rfl rfl (fun _ h => h) ?_
 obtain ⟨y1, hy2, H⟩ := of_bindO H
 obtain ⟨y3, hy4, H⟩ := of_bindO H
 refine W.region env [] [⟨.buf 900 y1.length, [(900, bufL 48 6 enc_Sighting y1)], 10000, []⟩, ⟨.buf 900 y3.length, [(10900, .dead), (900, bufL 48 6 enc_Sighting y3)], 12000, []⟩] rfl rfl (by kernel_rfl) .nil (.free ((Ctr.ofO (co_slices_Clone_Sighting p0.Sightings hy2))) (.free (CtrO.sim (CtrO.at (co_slices_DeleteFunc_Sighting fuel y1 (fun x0 => some (moon_sighted_1 x0 p1 p2)) 74 [] ([.rp [.int .i64 (p1)], .rp [.int .i64 (p2)]]) (fun x0 r h => by cases h; exact c_moon_sighted_1 x0 p1 p2) hy4) rfl 10900) (.cons .qc (.cons (Sim.fnClo rfl) .nil)) (.cons (.refl _) .nil)) .nil)) (At.keep (ts := [6]) (ids := [12900]) rfl rfl ?_)
 refine At.thenC ?_
 refine W.ret ?_
 cases H
 exact At.ret env.ty rfl rfl (fun q hq => by cases hq; exact (by first | rfl | (simp; done) | omega | (simp; omega))) (.refl _) hval
theorem c_moon_minus (p0 : Frac) {r : Frac} (H : moon_minus p0 = some r) : Ctr Try.prog 75 [.agg [.int .i64 (p0.Num), .int .i64 (p0.Den)]] (.agg [.int .i64 (r.Num), .int .i64 (r.Den)]) := by
 unfold moon_minus at H
 refine Ctr.of_body (N := 9) Try.func75 (by kernel_rfl) (c := _) rfl Try.ntmps75 rfl (fun w0 h0 hval => ?_)
 refine W.rg env [1, 2] [1, 2] ?_
 obtain ⟨hc1, H⟩ := of_must H
 refine W.sr env [] [] [2] [2] rfl rfl rfl (.cons hc1 .nil) .nil ?_
 refine W.ret ?_
 cases H
 exact At.ret env.ty rfl rfl (fun q hq => by cases hq) (.refl _) hval
theorem c_moon_between (fuel : Nat) (p0 : Frac) (p1 : Frac) (p2 : Int) (p3 : Int) {r : Frac} (H : moon_between fuel p0 p1 p2 p3 = some r) : Ctr Try.prog 81 [.agg [.int .i64 (p0.Num), .int .i64 (p0.Den)], .agg [.int .i64 (p1.Num), .int .i64 (p1.Den)], .int .i64 (p2), .int .i64 (p3)] (.agg [.int .i64 (r.Num), .int .i64 (r.Den)]) := by
 unfold moon_between at H
 refine Ctr.of_body (N := 40) Try.func81 (by kernel_rfl) (c := _) rfl Try.ntmps81 rfl (fun w0 h0 hval => ?_)
 refine W.rg env [2, 3, 4, 5, 8] [4, 5, 8] ?_
 obtain ⟨hc1, H⟩ := of_must H
 obtain ⟨hc2, H⟩ := of_must H
 refine W.sr env [] [] [2, 3, 4, 5, 8, 9] [4, 5, 8] rfl rfl rfl (.cons hc1 (.cons hc2 .nil)) .nil ?_
 refine W.seq ?_
 obtain ⟨hc3, H⟩ := of_must H
 obtain ⟨hc4, H⟩ := of_must H
 obtain ⟨hc5, H⟩ := of_must H
 obtain ⟨hc6, H⟩ := of_must H
 obtain ⟨hc7, H⟩ := of_must H
 obtain ⟨hc8, H⟩ := of_must H
 obtain ⟨hc9, H⟩ := of_must H
 obtain ⟨y10, hy11, H⟩ := of_bindO H
 refine W.region env [] [⟨.agg [.int .i64 (y10.Num), .int .i64 (y10.Den)], [], 0, []⟩] rfl rfl rfl (.cons hc3 (.cons hc4 (.cons hc5 (.cons hc6 (.cons hc7 (.cons hc8 (.cons hc9 .nil))))))) (.free (c_moon_least fuel (((p0.Num * p1.Den) * p3) + (((p1.Num * p0.Den) - (p0.Num * p1.Den)) * p2)) ((p0.Den * p1.Den) * p3) hy11) .nil) (At.keep (ts := [8]) (ids := [8]) rfl rfl ?_)
 refine At.thenC ?_
 refine W.ret ?_
 cases H
 exact At.ret env.ty rfl rfl (fun q hq => by cases hq) (.refl _) hval
theorem c_moon_at (fuel : Nat) (p0 : Sheet) (p1 : Int) (p2 : Row → Option Frac) (p2_g : Nat) (p2_a p2_b : List AV) (p2_h : ∀ x0 r, p2 x0 = some r → Ctr Try.prog p2_g (p2_a ++ ([.agg [.int .i64 (x0.Minute), .int .i64 (x0.Height.Num), .int .i64 (x0.Height.Den), .int .i64 (x0.Bearing.Num), .int .i64 (x0.Bearing.Den)]] ++ p2_b)) (.agg [.int .i64 (r.Num), .int .i64 (r.Den)])) {r : Frac} (H : moon_at fuel p0 p1 p2 = some r) : Ctr Try.prog 64 [.agg [.int .i64 (p0.Source), .int .i64 (p0.Night), .int .i64 (p0.Known), .int .i64 (p0.Until), roL 5 enc_Row p0.Rows, .int .i64 (p0.Off.Num), .int .i64 (p0.Off.Den), .int .i64 (p0.Light.Lo), .int .i64 (p0.Light.Hi)], .int .i64 (p1), .clo (.func p2_g) p2_a p2_b] (.agg [.int .i64 (r.Num), .int .i64 (r.Den)]) := by
 unfold moon_at at H
 refine Ctr.of_body (N := 48) Try.func64 (by kernel_rfl) (c := _) rfl Try.ntmps64 rfl (fun w0 h0 hval => ?_)
 refine W.rg env [1, 2, 3, 6] [3, 6] ?_
 refine W.rg env [1, 2, 3, 6, 7] [3, 6] ?_
 refine W.seq ?_
 refine W.block ?_
 refine At.keep (ts := [1, 2, 3, 6, 7]) (ids := [3, 6]) rfl rfl ?_
 refine W.loopGo H (fun (s1 : Int) => [(1, .int .i64 (p1)), (2, .clo (.func p2_g) p2_a p2_b), (3, .lp 3 0), (6, .lp 6 0), (7, .int .i64 (s1))]) (fun (s1 : Int) => [(3, .cells [.int .i64 (p0.Source), .int .i64 (p0.Night), .int .i64 (p0.Known), .int .i64 (p0.Until), roL 5 enc_Row p0.Rows, .int .i64 (p0.Off.Num), .int .i64 (p0.Off.Den), .int .i64 (p0.Light.Lo), .int .i64 (p0.Light.Hi)]), (6, .cells [.int .i64 (0), .int .i64 (0)])]) (.cons .qi (.cons .q (.cons .q (.cons .q (.cons .qi .nil))))) (.cons .q (.cons .q .nil)) (fun k1 s1 H K0 hK1 => ?_)
 refine W.seq ?_
 obtain ⟨hc2, H⟩ := of_must H
 obtain ⟨hc3, H⟩ := of_must H
 refine W.sr env [] [] [1, 2, 3, 6, 7, 18] [3, 6] rfl rfl rfl (.cons hc2 (.cons hc3 .nil)) .nil ?_
 refine W.cond rfl (fun hb4 => ?_) (fun hb4 => ?_)
 · have H := of_true H hb4
   refine W.skip ?_
   refine At.thenC ?_
   refine W.block ?_
   obtain ⟨hc5, H⟩ := of_must H
   refine W.region env [] [] rfl rfl rfl (.cons hc5 .nil) .nil (At.keep (ts := [1, 2, 3, 6, 7]) (ids := [3, 6]) rfl rfl ?_)
   refine At.inb ?_
   refine At.thenK (At.keep (ts := [1, 2, 3, 6, 7]) (ids := [3, 6]) rfl rfl ?_)
   exact At.conv (.cons .qi (.cons .q (.cons .q (.cons .q (.cons .qi .nil))))) (.cons .q (.cons .q .nil)) (hK1 (s1 + 1) H)
 · have H := of_false H hb4
   refine W.exit ?_
   refine At.xthen ?_
   refine At.xthen ?_
   refine At.xhere ?_
   refine At.thenC ?_
   obtain ⟨hc6, H⟩ := of_must H
   obtain ⟨hc7, H⟩ := of_must H
   obtain ⟨hc8, H⟩ := of_must H
   refine W.sr env [] [] [1, 2, 6, 8, 9] [6, 8, 9] rfl rfl (by first | rfl | kernel_rfl) (.cons hc6 (.cons hc7 (.cons hc8 .nil))) .nil ?_
   refine W.seq ?_
   obtain ⟨y9, hy10, H⟩ := of_bindO H
   obtain ⟨y11, hy12, H⟩ := of_bindO H
   obtain ⟨hc13, H⟩ := of_must H
   obtain ⟨hc14, H⟩ := of_must H
   obtain ⟨y15, hy16, H⟩ := of_bindO H
   refine W.region env [] [⟨.agg [.int .i64 (y9.Num), .int .i64 (y9.Den)], [], 0, []⟩, ⟨.agg [.int .i64 (y11.Num), .int .i64 (y11.Den)], [], 0, []⟩, ⟨.agg [.int .i64 (y15.Num), .int .i64 (y15.Den)], [], 0, []⟩] rfl rfl (by kernel_rfl) (.cons hc13 (.cons hc14 .nil)) (.free (p2_h (p0.Rows.getD (s1).toNat default) _ hy10) (.free (p2_h (p0.Rows.getD ((s1 + 1)).toNat default) _ hy12) (.free (c_moon_between fuel y9 y11 (p1 - (p0.Rows.getD (s1).toNat default).Minute) ((p0.Rows.getD ((s1 + 1)).toNat default).Minute - (p0.Rows.getD (s1).toNat default).Minute) hy16) .nil))) (At.keep (ts := [6]) (ids := [6]) rfl rfl ?_)
   refine At.thenC ?_
   refine W.ret ?_
   cases H
   exact At.ret env.ty rfl rfl (fun q hq => by cases hq) (.refl _) hval
theorem c_moon_heightOf (p0 : Row) : Ctr Try.prog 65 [.agg [.int .i64 (p0.Minute), .int .i64 (p0.Height.Num), .int .i64 (p0.Height.Den), .int .i64 (p0.Bearing.Num), .int .i64 (p0.Bearing.Den)]] (.agg [.int .i64 ((moon_heightOf p0).Num), .int .i64 ((moon_heightOf p0).Den)]) := by
 obtain ⟨r, H⟩ : ∃ r, moon_heightOf p0 = r := ⟨_, rfl⟩
 rw [H]
 unfold moon_heightOf at H
 refine Ctr.of_body (N := 5) Try.func65 (by kernel_rfl) (c := _) rfl Try.ntmps65 rfl (fun w0 h0 hval => ?_)
 refine W.rg env [1, 2] [1, 2] ?_
 refine W.rg env [2] [2] ?_
 refine W.ret ?_
 cases H
 exact At.ret env.ty rfl rfl (fun q hq => by cases hq) (.refl _) hval
theorem c_moon_bearingOf (p0 : Row) : Ctr Try.prog 68 [.agg [.int .i64 (p0.Minute), .int .i64 (p0.Height.Num), .int .i64 (p0.Height.Den), .int .i64 (p0.Bearing.Num), .int .i64 (p0.Bearing.Den)]] (.agg [.int .i64 ((moon_bearingOf p0).Num), .int .i64 ((moon_bearingOf p0).Den)]) := by
 obtain ⟨r, H⟩ : ∃ r, moon_bearingOf p0 = r := ⟨_, rfl⟩
 rw [H]
 unfold moon_bearingOf at H
 refine Ctr.of_body (N := 5) Try.func68 (by kernel_rfl) (c := _) rfl Try.ntmps68 rfl (fun w0 h0 hval => ?_)
 refine W.rg env [1, 2] [1, 2] ?_
 refine W.rg env [2] [2] ?_
 refine W.ret ?_
 cases H
 exact At.ret env.ty rfl rfl (fun q hq => by cases hq) (.refl _) hval
theorem c_moon_whole (p0 : Int) : Ctr Try.prog 83 [.int .i64 (p0)] (.agg [.int .i64 ((moon_whole p0).Num), .int .i64 ((moon_whole p0).Den)]) := by
 obtain ⟨r, H⟩ : ∃ r, moon_whole p0 = r := ⟨_, rfl⟩
 rw [H]
 unfold moon_whole at H
 refine Ctr.of_body (N := 5) Try.func83 (by kernel_rfl) (c := _) rfl Try.ntmps83 rfl (fun w0 h0 hval => ?_)
 refine W.rg env [0, 2] [2] ?_
 refine W.rg env [2] [2] ?_
 refine W.ret ?_
 cases H
 exact At.ret env.ty rfl rfl (fun q hq => by cases hq) (.refl _) hval
theorem c_moon_horizon (fuel : Nat) (p0 : (List Roof)) (p1 : Frac) {r : Int} (H : moon_horizon fuel p0 p1 = some r) : Ctr Try.prog 67 [roL 3 enc_Roof p0, .agg [.int .i64 (p1.Num), .int .i64 (p1.Den)]] (.int .i64 (r)) := by
 unfold moon_horizon at H
 refine Ctr.of_body (N := 34) Try.func67 (by kernel_rfl) (c := _) rfl Try.ntmps67 rfl (fun w0 h0 hval => ?_)
 refine W.rg env [0, 3] [3] ?_
 refine W.rg env [0, 3, 5] [3] ?_
 refine W.seq ?_
 refine W.rg env [3, 5, 8, 9, 10] [3] ?_
 refine W.block ?_
 refine At.keep (ts := [3, 5, 8, 9, 10]) (ids := [3]) rfl rfl ?_
 refine W.len (t := 8) rfl (fun (hn1 : p0.length ≤ maxLen) => ?_)
 refine W.rangeGo H (fun i1 (s1 : Int) => [(3, .lp 3 0), (5, .int .i64 (s1)), (8, roL 3 enc_Roof p0), (9, .int .i64 (((p0.length : Nat) : Int))), (10, .int .i64 ((i1 : Int)))]) (fun i1 (s1 : Int) => [(3, .cells [.int .i64 (p1.Num), .int .i64 (p1.Den)])]) (.cons .q (.cons .qi (.cons .q (.cons .qi (.cons .qi .nil))))) (.cons .q .nil) (fun k1 i1 s1 hle1 H1 H2 K0 hK1 => ?_)
 refine W.rg env [3, 5, 8, 9, 10, 11] [3] ?_
 refine W.seq ?_
 refine W.cond rfl (fun hb2 => ?_) (fun hb2 => ?_)
 · have hi1 : i1 < p0.length := by have := of_decide_eq_true hb2; omega
   have H := H1 hi1
   refine W.skip ?_
   refine At.thenC ?_
   refine W.seq ?_
   refine W.block ?_
   refine W.sr env [] [] [3, 5, 7, 8, 9, 10] [3, 7] rfl rfl rfl (.cons (⟨by omega, by omega⟩ : 0 ≤ (i1 : Int) ∧ (i1 : Int) < ((p0.length : Nat) : Int)) .nil) .nil ?_
   refine W.seq ?_
   obtain ⟨y3, hy4, H⟩ := of_bindO H
   obtain ⟨y5, hy6, H⟩ := of_bindO H
   refine W.region env [] [⟨.agg [.int .i64 ((moon_whole ((p0.getD i1 default).From)).Num), .int .i64 ((moon_whole ((p0.getD i1 default).From)).Den)], [], 0, []⟩, ⟨.int .i64 (y3), [], 0, []⟩, ⟨.agg [.int .i64 ((moon_whole ((p0.getD i1 default).To)).Num), .int .i64 ((moon_whole ((p0.getD i1 default).To)).Den)], [], 0, []⟩, ⟨.int .i64 (y5), [], 0, []⟩] rfl rfl (by kernel_rfl) (.cons (fun h => h) (.cons (fun h => h) (.cons (fun h => h) (.cons (fun h => h) (.cons (fun h => h) (.cons (fun h => h) .nil)))))) (.free (c_moon_whole ((p0.getD i1 default).From)) (.free (c_moon_compare fuel (moon_whole ((p0.getD i1 default).From)) p1 hy4) (.on (fun hW => c_moon_whole ((p0.getD i1 default).To)) (.on (fun hW => c_moon_compare fuel (moon_whole ((p0.getD i1 default).To)) p1 (of_true hy6 hW)) .nil)))) (At.keep (ts := [3, 5, 7, 8, 9, 10, 27]) (ids := [3, 7]) rfl rfl ?_)
   refine At.thenC ?_
   refine W.cond rfl (fun hb7 => ?_) (fun hb7 => ?_)
   · have H := of_true H hb7
     refine W.region env [] [] rfl rfl rfl .nil .nil (At.keep (ts := [3, 5, 8, 9, 10]) (ids := [3]) rfl rfl ?_)
     refine At.inb ?_
     refine At.thenC ?_
     refine W.region env [] [] rfl rfl rfl (.cons (by unfold inI; have := hn1; (try unfold maxLen at this); omega) .nil) .nil (At.keep (ts := [3, 5, 8, 9, 10]) (ids := [3]) rfl rfl ?_)
     refine At.thenK (At.keep (ts := [3, 5, 8, 9, 10]) (ids := [3]) rfl rfl ?_)
     exact At.conv (.cons .q (.cons .qi (.cons .q (.cons .qi (.cons .qi .nil))))) (.cons .q .nil) (hK1 hi1 (max s1 ((p0.getD i1 default).Top)) H)
   · have H := of_false H hb7
     refine W.skip ?_
     refine At.inb ?_
     refine At.thenC ?_
     refine W.region env [] [] rfl rfl rfl (.cons (by unfold inI; have := hn1; (try unfold maxLen at this); omega) .nil) .nil (At.keep (ts := [3, 5, 8, 9, 10]) (ids := [3]) rfl rfl ?_)
     refine At.thenK (At.keep (ts := [3, 5, 8, 9, 10]) (ids := [3]) rfl rfl ?_)
     exact At.conv (.cons .q (.cons .qi (.cons .q (.cons .qi (.cons .qi .nil))))) (.cons .q .nil) (hK1 hi1 s1 H)
 · have H := H2 (by have := of_decide_eq_false hb2; omega)
   refine W.exit ?_
   refine At.xthen ?_
   refine At.xthen ?_
   refine At.xhere ?_
   refine At.thenC ?_
   refine W.rg env [4] [] ?_
   refine W.ret ?_
   cases H
   exact At.ret env.ty rfl rfl (fun q hq => by cases hq) (.refl _) hval
theorem c_moon_margin (fuel : Nat) (p0 : Sheet) (p1 : (List Roof)) (p2 : Int) {r : Frac} (H : moon_margin fuel p0 p1 p2 = some r) : Ctr Try.prog 37 [.agg [.int .i64 (p0.Source), .int .i64 (p0.Night), .int .i64 (p0.Known), .int .i64 (p0.Until), roL 5 enc_Row p0.Rows, .int .i64 (p0.Off.Num), .int .i64 (p0.Off.Den), .int .i64 (p0.Light.Lo), .int .i64 (p0.Light.Hi)], roL 3 enc_Roof p1, .int .i64 (p2)] (.agg [.int .i64 (r.Num), .int .i64 (r.Den)]) := by
 unfold moon_margin at H
 refine Ctr.of_body (N := 25) Try.func37 (by kernel_rfl) (c := _) rfl Try.ntmps37 rfl (fun w0 h0 hval => ?_)
 refine W.rg env [1, 2, 3, 6] [3, 6] ?_
 refine W.seq ?_
 obtain ⟨y1, hy2, H⟩ := of_bindO H
 refine W.region env [] [⟨.agg [.int .i64 (y1.Num), .int .i64 (y1.Den)], [], 0, []⟩] rfl rfl rfl .nil (.free (c_moon_at fuel p0 p2 (fun x0 => some (moon_heightOf x0)) 65 [] [] (fun x0 r h => by cases h; exact c_moon_heightOf x0) hy2) .nil) (At.keep (ts := [1, 2, 3, 6, 7]) (ids := [3, 6, 7]) rfl rfl ?_)
 refine At.thenC ?_
 refine W.seq ?_
 obtain ⟨y3, hy4, H⟩ := of_bindO H
 obtain ⟨y5, hy6, H⟩ := of_bindO H
 obtain ⟨hc7, H⟩ := of_must H
 obtain ⟨hc8, H⟩ := of_must H
 obtain ⟨y9, hy10, H⟩ := of_bindO H
 refine W.region env [] [⟨.agg [.int .i64 (y3.Num), .int .i64 (y3.Den)], [], 0, []⟩, ⟨.int .i64 (y5), [], 0, []⟩, ⟨.agg [.int .i64 (y9.Num), .int .i64 (y9.Den)], [], 0, []⟩] rfl rfl (by kernel_rfl) (.cons hc7 (.cons hc8 .nil)) (.free (c_moon_at fuel p0 p2 (fun x0 => some (moon_bearingOf x0)) 68 [] [] (fun x0 r h => by cases h; exact c_moon_bearingOf x0) hy4) (.free (c_moon_horizon fuel p1 y3 hy6) (.free (c_moon_least fuel (y1.Num - (y5 * y1.Den)) y1.Den hy10) .nil))) (At.keep (ts := [6]) (ids := [6]) rfl rfl ?_)
 refine At.thenC ?_
 refine W.ret ?_
 cases H
 exact At.ret env.ty rfl rfl (fun q hq => by cases hq) (.refl _) hval
theorem c_moon_known__slipOf (fuel : Nat) (p0 : moon_known) (p1 : (List Sighting)) {r : Slip} (H : moon_known__slipOf fuel p0 p1 = some r) : Ctr Try.prog 48 [.rp [.int .i64 (p0.Sheet.Source), .int .i64 (p0.Sheet.Night), .int .i64 (p0.Sheet.Known), .int .i64 (p0.Sheet.Until), roL 5 enc_Row p0.Sheet.Rows, .int .i64 (p0.Sheet.Off.Num), .int .i64 (p0.Sheet.Off.Den), .int .i64 (p0.Sheet.Light.Lo), .int .i64 (p0.Sheet.Light.Hi), roL 3 enc_Roof p0.roofs, roL 6 enc_Sighting p0.sightings, .int .i64 (p0.slip.Lo.Num), .int .i64 (p0.slip.Lo.Den), .bool (p0.slip.Open), .int .i64 (p0.slip.Hi.Num), .int .i64 (p0.slip.Hi.Den)], roL 6 enc_Sighting p1] (.agg [.int .i64 (r.Lo.Num), .int .i64 (r.Lo.Den), .bool (r.Open), .int .i64 (r.Hi.Num), .int .i64 (r.Hi.Den)]) := by
 unfold moon_known__slipOf at H
 refine Ctr.of_body (N := 70) Try.func48 (by kernel_rfl) (c := _) rfl Try.ntmps48 rfl (fun w0 h0 hval => ?_)
 refine W.rg env [0, 1, 4] [4] ?_
 refine W.seq ?_
 obtain ⟨y1, hy2, H⟩ := of_bindO H
 obtain ⟨y3, hy4, H⟩ := of_bindO H
 obtain ⟨y5, hy6, H⟩ := of_bindO H
 refine W.region env [] [⟨.agg [.int .i64 (y1.Num), .int .i64 (y1.Den)], [], 0, []⟩, ⟨.agg [.int .i64 (y3.Num), .int .i64 (y3.Den)], [], 0, []⟩, ⟨.agg [.int .i64 (y5.Num), .int .i64 (y5.Den)], [], 0, []⟩] rfl rfl (by kernel_rfl) .nil (.free (c_moon_minus p0.Sheet.Off hy2) (.free (c_moon_reduced fuel y1 hy4) (.free (c_moon_reduced fuel p0.Sheet.Off hy6) .nil))) (At.keep (ts := [0, 1, 4, 5]) (ids := [4, 5]) rfl rfl ?_)
 refine At.thenC ?_
 refine W.seq ?_
 refine W.rg env [0, 4, 5, 23, 24, 25] [4, 5] ?_
 refine W.block ?_
 refine At.keep (ts := [0, 4, 5, 23, 24, 25]) (ids := [4, 5]) rfl rfl ?_
 refine W.len (t := 23) rfl (fun (hn7 : p1.length ≤ maxLen) => ?_)
 refine W.rangeGo H (fun i7 (s7 : Slip) => [(0, .rp [.int .i64 (p0.Sheet.Source), .int .i64 (p0.Sheet.Night), .int .i64 (p0.Sheet.Known), .int .i64 (p0.Sheet.Until), roL 5 enc_Row p0.Sheet.Rows, .int .i64 (p0.Sheet.Off.Num), .int .i64 (p0.Sheet.Off.Den), .int .i64 (p0.Sheet.Light.Lo), .int .i64 (p0.Sheet.Light.Hi), roL 3 enc_Roof p0.roofs, roL 6 enc_Sighting p0.sightings, .int .i64 (p0.slip.Lo.Num), .int .i64 (p0.slip.Lo.Den), .bool (p0.slip.Open), .int .i64 (p0.slip.Hi.Num), .int .i64 (p0.slip.Hi.Den)]), (4, .lp 4 0), (5, .lp 5 0), (23, roL 6 enc_Sighting p1), (24, .int .i64 (((p1.length : Nat) : Int))), (25, .int .i64 ((i7 : Int)))]) (fun i7 (s7 : Slip) => [(4, .cells [.int .i64 (0), .int .i64 (0), .bool (false), .int .i64 (0), .int .i64 (0)]), (5, .cells [.int .i64 (s7.Lo.Num), .int .i64 (s7.Lo.Den), .bool (s7.Open), .int .i64 (s7.Hi.Num), .int .i64 (s7.Hi.Den)])]) (.cons .q (.cons .q (.cons .q (.cons .q (.cons .qi (.cons .qi .nil)))))) (.cons .q (.cons .q .nil)) (fun k7 i7 s7 hle7 H1 H2 K0 hK7 => ?_)
 refine W.rg env [0, 4, 5, 23, 24, 25, 26] [4, 5] ?_
 refine W.seq ?_
 refine W.cond rfl (fun hb8 => ?_) (fun hb8 => ?_)
 · have hi7 : i7 < p1.length := by have := of_decide_eq_true hb8; omega
   have H := H1 hi7
   refine W.skip ?_
   refine At.thenC ?_
   refine W.seq ?_
   refine W.block ?_
   refine W.sr env [] [] [0, 4, 5, 7, 23, 24, 25] [4, 5, 7] rfl rfl rfl (.cons (⟨by omega, by omega⟩ : 0 ≤ (i7 : Int) ∧ (i7 : Int) < ((p1.length : Nat) : Int)) .nil) .nil ?_
   refine W.seq ?_
   obtain ⟨y9, hy10, H⟩ := of_bindO H
   obtain ⟨y11, hy12, H⟩ := of_bindO H
   obtain ⟨y13, hy14, H⟩ := of_bindO H
   refine W.region env [] [⟨.agg [.int .i64 (y9.Num), .int .i64 (y9.Den)], [], 0, []⟩, ⟨.agg [.int .i64 (y11.Num), .int .i64 (y11.Den)], [], 0, []⟩, ⟨.agg [.int .i64 (y13.Num), .int .i64 (y13.Den)], [], 0, []⟩] rfl rfl (by kernel_rfl) .nil (.free (c_moon_margin fuel p0.Sheet p0.roofs ((p1.getD i7 default).Minute) hy10) (.free (c_moon_minus y9 hy12) (.free (c_moon_reduced fuel y11 hy14) .nil))) (At.keep (ts := [0, 4, 5, 7, 8, 23, 24, 25]) (ids := [4, 5, 7, 8]) rfl rfl ?_)
   refine At.thenC ?_
   refine W.block ?_
   refine W.seq ?_
   obtain ⟨y15, hy16, H⟩ := of_bindO H
   refine W.region env [] [⟨.int .i64 (y15), [], 0, []⟩] rfl rfl rfl (.cons (fun h => h) (.cons (fun h => h) (.cons (fun h => h) (.cons (fun h => h) (.cons (fun h => h) .nil))))) (.on (fun hW => c_moon_compare fuel y13 s7.Lo (of_true hy16 hW)) .nil) (At.keep (ts := [0, 4, 5, 7, 8, 23, 24, 25, 42]) (ids := [4, 5, 7, 8]) rfl rfl ?_)
   refine At.thenC ?_
   refine W.cond rfl (fun hb17 => ?_) (fun hb17 => ?_)
   · have H := of_true H hb17
     refine W.region env [] [] rfl rfl rfl .nil .nil (At.keep (ts := [0, 4, 5, 23, 24, 25]) (ids := [4, 5]) rfl rfl ?_)
     refine At.inb ?_
     refine At.inb ?_
     refine At.thenC ?_
     refine W.region env [] [] rfl rfl rfl (.cons (by unfold inI; have := hn7; (try unfold maxLen at this); omega) .nil) .nil (At.keep (ts := [0, 4, 5, 23, 24, 25]) (ids := [4, 5]) rfl rfl ?_)
     refine At.thenK (At.keep (ts := [0, 4, 5, 23, 24, 25]) (ids := [4, 5]) rfl rfl ?_)
     exact At.conv (.cons .q (.cons .q (.cons .q (.cons .q (.cons .qi (.cons .qi .nil)))))) (.cons .q (.cons .q .nil)) (hK7 hi7 (⟨y13, true, s7.Hi⟩ : Slip) H)
   · have H := of_false H hb17
     refine W.seq ?_
     obtain ⟨y18, hy19, H⟩ := of_bindO H
     refine W.region env [] [⟨.int .i64 (y18), [], 0, []⟩] rfl rfl rfl (.cons (fun h => h) (.cons (fun h => h) (.cons (fun h => h) (.cons (fun h => h) (.cons (fun h => h) .nil))))) (.on (fun hW => c_moon_compare fuel y13 s7.Hi (of_true hy19 hW)) .nil) (At.keep (ts := [0, 4, 5, 8, 23, 24, 25, 55]) (ids := [4, 5, 8]) rfl rfl ?_)
     refine At.thenC ?_
     refine W.cond rfl (fun hb20 => ?_) (fun hb20 => ?_)
     · have H := of_true H hb20
       refine W.region env [] [] rfl rfl rfl .nil .nil (At.keep (ts := [0, 4, 5, 23, 24, 25]) (ids := [4, 5]) rfl rfl ?_)
       refine At.inb ?_
       refine At.inb ?_
       refine At.thenC ?_
       refine W.region env [] [] rfl rfl rfl (.cons (by unfold inI; have := hn7; (try unfold maxLen at this); omega) .nil) .nil (At.keep (ts := [0, 4, 5, 23, 24, 25]) (ids := [4, 5]) rfl rfl ?_)
       refine At.thenK (At.keep (ts := [0, 4, 5, 23, 24, 25]) (ids := [4, 5]) rfl rfl ?_)
       exact At.conv (.cons .q (.cons .q (.cons .q (.cons .q (.cons .qi (.cons .qi .nil)))))) (.cons .q (.cons .q .nil)) (hK7 hi7 (⟨s7.Lo, s7.Open, y13⟩ : Slip) H)
     · have H := of_false H hb20
       refine W.skip ?_
       refine At.inb ?_
       refine At.inb ?_
       refine At.thenC ?_
       refine W.region env [] [] rfl rfl rfl (.cons (by unfold inI; have := hn7; (try unfold maxLen at this); omega) .nil) .nil (At.keep (ts := [0, 4, 5, 23, 24, 25]) (ids := [4, 5]) rfl rfl ?_)
       refine At.thenK (At.keep (ts := [0, 4, 5, 23, 24, 25]) (ids := [4, 5]) rfl rfl ?_)
       exact At.conv (.cons .q (.cons .q (.cons .q (.cons .q (.cons .qi (.cons .qi .nil)))))) (.cons .q (.cons .q .nil)) (hK7 hi7 s7 H)
 · have H := H2 (by have := of_decide_eq_false hb8; omega)
   refine W.exit ?_
   refine At.xthen ?_
   refine At.xthen ?_
   refine At.xhere ?_
   refine At.thenC ?_
   refine W.rg env [4] [4] ?_
   refine W.ret ?_
   cases H
   exact At.ret env.ty rfl rfl (fun q hq => by cases hq) (.refl _) hval
theorem c_moon_look (fuel : Nat) (p0 : Sky) (p1 : Int) (p2 : Int) (p3 : (List Int)) {r : ((Option moon_known) × Int)} (H : moon_look fuel p0 p1 p2 p3 = some r) : Ctr Try.prog 23 [.agg [roL 9 enc_Sheet p0.Sheets, roL 3 enc_Roof p0.Roofs, roL 6 enc_Sighting p0.Sightings], .int .i64 (p1), .int .i64 (p2), roL 1 enc_Int p3] (.tup [.po r.1.isSome [.int .i64 ((r.1.getD default).Sheet.Source), .int .i64 ((r.1.getD default).Sheet.Night), .int .i64 ((r.1.getD default).Sheet.Known), .int .i64 ((r.1.getD default).Sheet.Until), roL 5 enc_Row ((r.1.getD default).Sheet.Rows), .int .i64 ((r.1.getD default).Sheet.Off.Num), .int .i64 ((r.1.getD default).Sheet.Off.Den), .int .i64 ((r.1.getD default).Sheet.Light.Lo), .int .i64 ((r.1.getD default).Sheet.Light.Hi), roL 3 enc_Roof ((r.1.getD default).roofs), roL 6 enc_Sighting ((r.1.getD default).sightings), .int .i64 ((r.1.getD default).slip.Lo.Num), .int .i64 ((r.1.getD default).slip.Lo.Den), .bool ((r.1.getD default).slip.Open), .int .i64 ((r.1.getD default).slip.Hi.Num), .int .i64 ((r.1.getD default).slip.Hi.Den)], .int .i64 (r.2)]) := by
 unfold moon_look at H
 refine Ctr.of_body (N := 81) Try.func23 (by kernel_rfl) (c := _) rfl Try.ntmps23 rfl (fun w0 h0 hval => ?_)
 refine W.rg env [1, 2, 3, 4] [4] ?_
 refine W.seq ?_
 refine W.seq ?_
 obtain ⟨y1, hy2, H⟩ := of_bindO H
 refine W.region env [] [⟨.int .i64 (y1), [], 0, []⟩] rfl rfl rfl .nil (.free (c_moon_Check fuel p0 hy2) .nil) (At.keep (ts := [1, 2, 3, 4, 10]) (ids := [4]) rfl rfl ?_)
 refine At.thenC ?_
 refine W.rg env [1, 2, 3, 4, 10, 19] [4] ?_
 refine W.cond rfl (fun hb3 => ?_) (fun hb3 => ?_)
 · have H := of_true H hb3
   refine W.rg env [8, 9] [] ?_
   refine W.ret ?_
   refine At.rthen ?_
   cases H
   exact At.ret env.ty rfl rfl (fun q hq => by cases hq) (Sim.tupL (.cons (Sim.po_nil rfl) (.cons (.refl _) .nil))) hval
 · have H := of_false H hb3
   refine W.skip ?_
   refine At.thenC ?_
   refine W.seq ?_
   refine W.sr env [] [⟨.bool ((moon_isNight p1)), [], 0, []⟩, ⟨.bool ((moon_isNight p2)), [], 0, []⟩] [1, 2, 3, 4, 28] [4] rfl rfl rfl (.cons (fun h => h) (.cons (fun h => h) (.cons (fun h => by rw [h]; rfl) .nil))) (.free (c_moon_isNight p1) (.on (fun hW => c_moon_isNight p2) .nil)) ?_
   refine W.cond rfl (fun hb4 => ?_) (fun hb4 => ?_)
   · have H := of_true H hb4
     refine W.rg env [8, 9] [] ?_
     refine W.ret ?_
     refine At.rthen ?_
     cases H
     exact At.ret env.ty rfl rfl (fun q hq => by cases hq) (Sim.tupL (.cons (Sim.po_nil rfl) (.cons (.refl _) .nil))) hval
   · have H := of_false H hb4
     refine W.skip ?_
     refine At.thenC ?_
     refine W.seq ?_
     refine W.rg env [1, 2, 3, 4, 29, 30, 31] [4] ?_
     refine W.block ?_
     refine At.keep (ts := [1, 2, 3, 4, 29, 30, 31]) (ids := [4]) rfl rfl ?_
     refine W.len (t := 29) rfl (fun (hn5 : p3.length ≤ maxLen) => ?_)
     refine W.rangeGo H (fun i5 (s5 : Unit) => [(1, .int .i64 (p1)), (2, .int .i64 (p2)), (3, roL 1 enc_Int p3), (4, .lp 4 0), (29, roL 1 enc_Int p3), (30, .int .i64 (((p3.length : Nat) : Int))), (31, .int .i64 ((i5 : Int)))]) (fun i5 (s5 : Unit) => [(4, .cells [roL 9 enc_Sheet p0.Sheets, roL 3 enc_Roof p0.Roofs, roL 6 enc_Sighting p0.Sightings])]) (.cons .qi (.cons .qi (.cons .q (.cons .q (.cons .q (.cons .qi (.cons .qi .nil))))))) (.cons .q .nil) (fun k5 i5 s5 hle5 H1 H2 K0 hK5 => ?_)
     refine W.rg env [1, 2, 3, 4, 29, 30, 31, 32] [4] ?_
     refine W.seq ?_
     refine W.cond rfl (fun hb6 => ?_) (fun hb6 => ?_)
     · have hi5 : i5 < p3.length := by have := of_decide_eq_true hb6; omega
       have H := H1 hi5
       refine W.skip ?_
       refine At.thenC ?_
       refine W.seq ?_
       refine W.block ?_
       refine W.sr env [] [] [1, 2, 3, 4, 11, 12, 29, 30, 31] [4] rfl rfl rfl (.cons (⟨by omega, by omega⟩ : 0 ≤ (i5 : Int) ∧ (i5 : Int) < ((p3.length : Nat) : Int)) .nil) .nil ?_
       obtain ⟨hc7, H⟩ := of_must H
       obtain ⟨hc8, H⟩ := of_must H
       refine W.sr env [] [⟨.bool ((moon_isMinute (p3.getD i5 default))), [], 0, []⟩] [1, 2, 3, 4, 29, 30, 31, 51] [4] rfl rfl rfl (.cons (fun h => h) (.cons (fun h => h) (.cons hc7 (.cons (fun h => h) (.cons hc8 (.cons (fun h => h) (.cons (fun h => h) (.cons (fun h => h) (.cons (fun h => h) (.cons (fun h => h) (.cons (fun h => h) (.cons (fun hW h => by revert hW h; first | (simp +contextual; done) | grind) (.cons (fun h => by rw [h]; rfl) .nil))))))))))))) (.free (c_moon_isMinute (p3.getD i5 default)) .nil) ?_
       refine W.cond rfl (fun hb9 => ?_) (fun hb9 => ?_)
       · have H := of_true H hb9
         refine W.rg env [8, 9] [] ?_
         refine W.ret ?_
         refine At.rinb ?_
         refine At.rthen ?_
         refine At.rthen ?_
         refine At.rinb ?_
         refine At.rthen ?_
         cases H
         exact At.ret env.ty rfl rfl (fun q hq => by cases hq) (Sim.tupL (.cons (Sim.po_nil rfl) (.cons (.refl _) .nil))) hval
       · have H := of_false H hb9
         refine W.skip ?_
         refine At.inb ?_
         refine At.thenC ?_
         refine W.region env [] [] rfl rfl rfl (.cons (by unfold inI; have := hn5; (try unfold maxLen at this); omega) .nil) .nil (At.keep (ts := [1, 2, 3, 4, 29, 30, 31]) (ids := [4]) rfl rfl ?_)
         refine At.thenK (At.keep (ts := [1, 2, 3, 4, 29, 30, 31]) (ids := [4]) rfl rfl ?_)
         exact At.conv (.cons .qi (.cons .qi (.cons .q (.cons .q (.cons .q (.cons .qi (.cons .qi .nil))))))) (.cons .q .nil) (hK5 hi5 () H)
     · have H := H2 (by have := of_decide_eq_false hb6; omega)
       refine W.exit ?_
       refine At.xthen ?_
       refine At.xthen ?_
       refine At.xhere ?_
       refine At.thenC ?_
       refine W.seq ?_
       obtain ⟨y10, hy11, H⟩ := of_bindO H
       refine W.region env [] [⟨.tup [.agg [.int .i64 (y10.1.Source), .int .i64 (y10.1.Night), .int .i64 (y10.1.Known), .int .i64 (y10.1.Until), roL 5 enc_Row y10.1.Rows, .int .i64 (y10.1.Off.Num), .int .i64 (y10.1.Off.Den), .int .i64 (y10.1.Light.Lo), .int .i64 (y10.1.Light.Hi)], .bool (y10.2)], [], 0, []⟩] rfl rfl rfl .nil (.free (c_moon_inForce p0 p1 p2 hy11) .nil) (At.keep (ts := [1, 2, 4, 13, 14]) (ids := [4, 13]) rfl rfl ?_)
       refine At.thenC ?_
       refine W.seq ?_
       refine W.rg env [1, 2, 4, 13, 61] [4, 13] ?_
       refine W.cond rfl (fun hb12 => ?_) (fun hb12 => ?_)
       · have H := of_true H hb12
         refine W.rg env [8, 9] [] ?_
         refine W.ret ?_
         refine At.rthen ?_
         cases H
         exact At.ret env.ty rfl rfl (fun q hq => by cases hq) (Sim.tupL (.cons (Sim.po_nil rfl) (.cons (.refl _) .nil))) hval
       · have H := of_false H hb12
         refine W.skip ?_
         refine At.thenC ?_
         refine W.seq ?_
         obtain ⟨y13, hy14, H⟩ := of_bindO H
         refine W.region env [] [⟨roL 6 enc_Sighting y13, [], 0, []⟩] rfl rfl (by kernel_rfl) .nil (.free (c_moon_sighted fuel p0 p1 p2 hy14) .nil) (At.keep (ts := [15]) (ids := [70]) rfl rfl ?_)
         refine At.thenC ?_
         refine W.seq ?_
         obtain ⟨y15, hy16, H⟩ := of_bindO H
         refine W.region env [] [⟨.agg [.int .i64 (y15.Lo.Num), .int .i64 (y15.Lo.Den), .bool (y15.Open), .int .i64 (y15.Hi.Num), .int .i64 (y15.Hi.Den)], [], 0, []⟩] rfl rfl rfl .nil (.free (c_moon_known__slipOf fuel (⟨y10.1, p0.Roofs, y13, (⟨(⟨0, 0⟩ : Frac), false, (⟨0, 0⟩ : Frac)⟩ : Slip)⟩ : moon_known) y13 hy16) .nil) (At.keep (ts := [15]) (ids := [70]) rfl rfl ?_)
         refine At.thenC ?_
         refine W.rg env [8, 9] [70] ?_
         refine W.ret ?_
         cases H
         exact At.ret env.ty rfl rfl (fun q hq => by cases hq) (Sim.tupL (.cons (Sim.po_rp rfl (.cons (.refl _) (.cons (.refl _) (.cons (.refl _) (.cons (.refl _) (.cons (.refl _) (.cons (.refl _) (.cons (.refl _) (.cons (.refl _) (.cons (.refl _) (.cons (.refl _) (.cons (.refl _) (.cons (.refl _) (.cons (.refl _) (.cons (.refl _) (.cons (.refl _) (.cons (.refl _) .nil))))))))))))))))) (.cons (.refl _) .nil))) hval
theorem c_moon_isEmpty (fuel : Nat) (p0 : Slip) {r : Bool} (H : moon_isEmpty fuel p0 = some r) : Ctr Try.prog 39 [.agg [.int .i64 (p0.Lo.Num), .int .i64 (p0.Lo.Den), .bool (p0.Open), .int .i64 (p0.Hi.Num), .int .i64 (p0.Hi.Den)]] (.bool (r)) := by
 unfold moon_isEmpty at H
 refine Ctr.of_body (N := 19) Try.func39 (by kernel_rfl) (c := _) rfl Try.ntmps39 rfl (fun w0 h0 hval => ?_)
 refine W.rg env [1] [1] ?_
 refine W.seq ?_
 obtain ⟨y1, hy2, H⟩ := of_bindO H
 refine W.region env [] [⟨.int .i64 (y1), [], 0, []⟩] rfl rfl rfl .nil (.free (c_moon_compare fuel p0.Lo p0.Hi hy2) .nil) (At.keep (ts := [1, 3]) (ids := [1]) rfl rfl ?_)
 refine At.thenC ?_
 refine W.sr env [] [] [2] [] rfl rfl rfl (.cons (fun h => h) (.cons (fun h => h) (.cons (fun h => h) (.cons (fun h => h) (.cons (fun hW h => by revert hW h; first | (simp +contextual; done) | grind) (.cons (fun h => by rw [h]; rfl) .nil)))))) .nil ?_
 refine W.ret ?_
 cases H
 exact At.ret env.ty rfl rfl (fun q hq => by cases hq) (.refl _) hval
theorem c_moon_clearly (fuel : Nat) (p0 : Sky) (p1 : Int) (p2 : Int) (p3 : (List Int)) {r : ((Option moon_known) × Int)} (H : moon_clearly fuel p0 p1 p2 p3 = some r) : Ctr Try.prog 17 [.agg [roL 9 enc_Sheet p0.Sheets, roL 3 enc_Roof p0.Roofs, roL 6 enc_Sighting p0.Sightings], .int .i64 (p1), .int .i64 (p2), roL 1 enc_Int p3] (.tup [.po r.1.isSome [.int .i64 ((r.1.getD default).Sheet.Source), .int .i64 ((r.1.getD default).Sheet.Night), .int .i64 ((r.1.getD default).Sheet.Known), .int .i64 ((r.1.getD default).Sheet.Until), roL 5 enc_Row ((r.1.getD default).Sheet.Rows), .int .i64 ((r.1.getD default).Sheet.Off.Num), .int .i64 ((r.1.getD default).Sheet.Off.Den), .int .i64 ((r.1.getD default).Sheet.Light.Lo), .int .i64 ((r.1.getD default).Sheet.Light.Hi), roL 3 enc_Roof ((r.1.getD default).roofs), roL 6 enc_Sighting ((r.1.getD default).sightings), .int .i64 ((r.1.getD default).slip.Lo.Num), .int .i64 ((r.1.getD default).slip.Lo.Den), .bool ((r.1.getD default).slip.Open), .int .i64 ((r.1.getD default).slip.Hi.Num), .int .i64 ((r.1.getD default).slip.Hi.Den)], .int .i64 (r.2)]) := by
 unfold moon_clearly at H
 refine Ctr.of_body (N := 31) Try.func17 (by kernel_rfl) (c := _) rfl Try.ntmps17 rfl (fun w0 h0 hval => ?_)
 refine W.rg env [1, 2, 3, 4] [4] ?_
 refine W.seq ?_
 obtain ⟨y1, hy2, H⟩ := of_bindO H
 refine W.region env [] [⟨.tup [.po y1.1.isSome [.int .i64 ((y1.1.getD default).Sheet.Source), .int .i64 ((y1.1.getD default).Sheet.Night), .int .i64 ((y1.1.getD default).Sheet.Known), .int .i64 ((y1.1.getD default).Sheet.Until), roL 5 enc_Row ((y1.1.getD default).Sheet.Rows), .int .i64 ((y1.1.getD default).Sheet.Off.Num), .int .i64 ((y1.1.getD default).Sheet.Off.Den), .int .i64 ((y1.1.getD default).Sheet.Light.Lo), .int .i64 ((y1.1.getD default).Sheet.Light.Hi), roL 3 enc_Roof ((y1.1.getD default).roofs), roL 6 enc_Sighting ((y1.1.getD default).sightings), .int .i64 ((y1.1.getD default).slip.Lo.Num), .int .i64 ((y1.1.getD default).slip.Lo.Den), .bool ((y1.1.getD default).slip.Open), .int .i64 ((y1.1.getD default).slip.Hi.Num), .int .i64 ((y1.1.getD default).slip.Hi.Den)], .int .i64 (y1.2)], [], 0, []⟩] rfl rfl rfl .nil (.free (c_moon_look fuel p0 p1 p2 p3 hy2) .nil) (At.keep (ts := [10, 11]) (ids := []) rfl rfl ?_)
 refine At.thenC ?_
 refine W.seq ?_
 refine W.block ?_
 refine W.rg env [10, 11, 20] [] ?_
 refine W.cond rfl (fun hb3 => ?_) (fun hb3 => ?_)
 · have H := of_true H hb3
   refine W.rg env [8, 9] [] ?_
   refine W.ret ?_
   refine At.rinb ?_
   refine At.rthen ?_
   cases H
   exact At.ret env.ty rfl rfl (fun q hq => by cases hq) (Sim.tupL (.cons (Sim.po_nil rfl) (.cons (.refl _) .nil))) hval
 · have H := of_false H hb3
   refine W.seq ?_
   obtain ⟨hc4, H⟩ := of_must H
   obtain ⟨y5, hy6, H⟩ := of_bindO H
   refine W.region env [] [⟨.bool (y5), [], 0, []⟩] rfl rfl rfl (.cons hc4 .nil) (.free (c_moon_isEmpty fuel ((y1.1.getD default).slip) hy6) .nil) (At.keep (ts := [10, 24]) (ids := []) rfl rfl ?_)
   refine At.thenC ?_
   refine W.cond rfl (fun hb7 => ?_) (fun hb7 => ?_)
   · have H := of_true H hb7
     refine W.rg env [8, 9] [] ?_
     refine W.ret ?_
     refine At.rinb ?_
     refine At.rthen ?_
     cases H
     exact At.ret env.ty rfl rfl (fun q hq => by cases hq) (Sim.tupL (.cons (Sim.po_nil rfl) (.cons (.refl _) .nil))) hval
   · have H := of_false H hb7
     refine W.skip ?_
     refine At.inb ?_
     refine At.thenC ?_
     refine W.rg env [8, 9] [] ?_
     refine W.ret ?_
     cases H
     exact At.ret env.ty rfl rfl (fun q hq => by cases hq) (.refl _) hval
theorem c_moon_known__edge (fuel : Nat) (p0 : moon_known) (p1 : Int) {r : Frac} (H : moon_known__edge fuel p0 p1 = some r) : Ctr Try.prog 49 [.rp [.int .i64 (p0.Sheet.Source), .int .i64 (p0.Sheet.Night), .int .i64 (p0.Sheet.Known), .int .i64 (p0.Sheet.Until), roL 5 enc_Row p0.Sheet.Rows, .int .i64 (p0.Sheet.Off.Num), .int .i64 (p0.Sheet.Off.Den), .int .i64 (p0.Sheet.Light.Lo), .int .i64 (p0.Sheet.Light.Hi), roL 3 enc_Roof p0.roofs, roL 6 enc_Sighting p0.sightings, .int .i64 (p0.slip.Lo.Num), .int .i64 (p0.slip.Lo.Den), .bool (p0.slip.Open), .int .i64 (p0.slip.Hi.Num), .int .i64 (p0.slip.Hi.Den)], .int .i64 (p1)] (.agg [.int .i64 (r.Num), .int .i64 (r.Den)]) := by
 unfold moon_known__edge at H
 refine Ctr.of_body (N := 17) Try.func49 (by kernel_rfl) (c := _) rfl Try.ntmps49 rfl (fun w0 h0 hval => ?_)
 refine W.rg env [0, 1, 4] [4] ?_
 refine W.seq ?_
 obtain ⟨y1, hy2, H⟩ := of_bindO H
 obtain ⟨y3, hy4, H⟩ := of_bindO H
 obtain ⟨y5, hy6, H⟩ := of_bindO H
 refine W.region env [] [⟨.agg [.int .i64 (y1.Num), .int .i64 (y1.Den)], [], 0, []⟩, ⟨.agg [.int .i64 (y3.Num), .int .i64 (y3.Den)], [], 0, []⟩, ⟨.agg [.int .i64 (y5.Num), .int .i64 (y5.Den)], [], 0, []⟩] rfl rfl (by kernel_rfl) .nil (.free (c_moon_margin fuel p0.Sheet p0.roofs p1 hy2) (.free (c_moon_minus y1 hy4) (.free (c_moon_reduced fuel y3 hy6) .nil))) (At.keep (ts := [4]) (ids := [4]) rfl rfl ?_)
 refine At.thenC ?_
 refine W.ret ?_
 cases H
 exact At.ret env.ty rfl rfl (fun q hq => by cases hq) (.refl _) hval
theorem c_moon_known__above (fuel : Nat) (p0 : moon_known) (p1 : Int) {r : Int} (H : moon_known__above fuel p0 p1 = some r) : Ctr Try.prog 26 [.rp [.int .i64 (p0.Sheet.Source), .int .i64 (p0.Sheet.Night), .int .i64 (p0.Sheet.Known), .int .i64 (p0.Sheet.Until), roL 5 enc_Row p0.Sheet.Rows, .int .i64 (p0.Sheet.Off.Num), .int .i64 (p0.Sheet.Off.Den), .int .i64 (p0.Sheet.Light.Lo), .int .i64 (p0.Sheet.Light.Hi), roL 3 enc_Roof p0.roofs, roL 6 enc_Sighting p0.sightings, .int .i64 (p0.slip.Lo.Num), .int .i64 (p0.slip.Lo.Den), .bool (p0.slip.Open), .int .i64 (p0.slip.Hi.Num), .int .i64 (p0.slip.Hi.Den)], .int .i64 (p1)] (.int .i64 (r)) := by
 unfold moon_known__above at H
 refine Ctr.of_body (N := 40) Try.func26 (by kernel_rfl) (c := _) rfl Try.ntmps26 rfl (fun w0 h0 hval => ?_)
 refine W.rg env [0, 1] [] ?_
 refine W.seq ?_
 obtain ⟨y1, hy2, H⟩ := of_bindO H
 refine W.region env [] [⟨.agg [.int .i64 (y1.Num), .int .i64 (y1.Den)], [], 0, []⟩] rfl rfl rfl .nil (.free (c_moon_known__edge fuel p0 p1 hy2) .nil) (At.keep (ts := [0, 5]) (ids := [5]) rfl rfl ?_)
 refine At.thenC ?_
 refine W.seq ?_
 obtain ⟨y3, hy4, H⟩ := of_bindO H
 refine W.region env [] [⟨.int .i64 (y3), [], 0, []⟩] rfl rfl (by kernel_rfl) .nil (.free (c_moon_compare fuel p0.slip.Lo y1 hy4) .nil) (At.keep (ts := [0, 5, 6]) (ids := [5]) rfl rfl ?_)
 refine At.thenC ?_
 refine W.seq ?_
 refine W.block ?_
 refine W.sr env [] [] [0, 5, 17] [5] rfl rfl rfl (.cons (fun h => h) (.cons (fun h => h) (.cons (fun h => h) (.cons (fun h => h) (.cons (fun h => h) (.cons (fun h => h) (.cons (fun h => h) (.cons (fun hW h => by revert hW h; first | (simp +contextual; done) | grind) (.cons (fun h => by rw [h]; rfl) .nil))))))))) .nil ?_
 refine W.cond rfl (fun hb5 => ?_) (fun hb5 => ?_)
 · have H := of_true H hb5
   refine W.rg env [4] [] ?_
   refine W.ret ?_
   refine At.rinb ?_
   refine At.rthen ?_
   cases H
   exact At.ret env.ty rfl rfl (fun q hq => by cases hq) (.refl _) hval
 · have H := of_false H hb5
   refine W.seq ?_
   obtain ⟨y6, hy7, H⟩ := of_bindO H
   refine W.region env [] [⟨.int .i64 (y6), [], 0, []⟩] rfl rfl (by kernel_rfl) .nil (.free (c_moon_compare fuel p0.slip.Hi y1 hy7) .nil) (At.keep (ts := [31]) (ids := []) rfl rfl ?_)
   refine At.thenC ?_
   refine W.cond rfl (fun hb8 => ?_) (fun hb8 => ?_)
   · have H := of_true H hb8
     refine W.rg env [4] [] ?_
     refine W.ret ?_
     refine At.rinb ?_
     refine At.rthen ?_
     cases H
     exact At.ret env.ty rfl rfl (fun q hq => by cases hq) (.refl _) hval
   · have H := of_false H hb8
     refine W.skip ?_
     refine At.inb ?_
     refine At.thenC ?_
     refine W.rg env [4] [] ?_
     refine W.ret ?_
     cases H
     exact At.ret env.ty rfl rfl (fun q hq => by cases hq) (.refl _) hval
theorem c_moon_Above (fuel : Nat) (p0 : Sky) (p1 : Int) (p2 : Int) (p3 : Int) {r : (Int × Int)} (H : moon_Above fuel p0 p1 p2 p3 = some r) : Ctr Try.prog 11 [.agg [roL 9 enc_Sheet p0.Sheets, roL 3 enc_Roof p0.Roofs, roL 6 enc_Sighting p0.Sightings], .int .i64 (p1), .int .i64 (p2), .int .i64 (p3)] (.tup [.int .i64 (r.1), .int .i64 (r.2)]) := by
 unfold moon_Above at H
 refine Ctr.of_body (N := 27) Try.func11 (by kernel_rfl) (c := _) rfl Try.ntmps11 rfl (fun w0 h0 hval => ?_)
 refine W.rg env [1, 2, 3, 4] [4] ?_
 refine W.seq ?_
 obtain ⟨y1, hy2, H⟩ := of_bindO H
 refine W.region env [] [⟨.tup [.po y1.1.isSome [.int .i64 ((y1.1.getD default).Sheet.Source), .int .i64 ((y1.1.getD default).Sheet.Night), .int .i64 ((y1.1.getD default).Sheet.Known), .int .i64 ((y1.1.getD default).Sheet.Until), roL 5 enc_Row ((y1.1.getD default).Sheet.Rows), .int .i64 ((y1.1.getD default).Sheet.Off.Num), .int .i64 ((y1.1.getD default).Sheet.Off.Den), .int .i64 ((y1.1.getD default).Sheet.Light.Lo), .int .i64 ((y1.1.getD default).Sheet.Light.Hi), roL 3 enc_Roof ((y1.1.getD default).roofs), roL 6 enc_Sighting ((y1.1.getD default).sightings), .int .i64 ((y1.1.getD default).slip.Lo.Num), .int .i64 ((y1.1.getD default).slip.Lo.Den), .bool ((y1.1.getD default).slip.Open), .int .i64 ((y1.1.getD default).slip.Hi.Num), .int .i64 ((y1.1.getD default).slip.Hi.Den)], .int .i64 (y1.2)], [], 0, []⟩] rfl rfl rfl .nil (.free (Ctr.sim (.cons (.refl _) (.cons (.refl _) (.cons (.refl _) (.cons (Sim.lit (f := enc_Int) ([p3] : List Int) rfl rfl (fun _ => rfl)) .nil)))) (c_moon_clearly fuel p0 p1 p2 ([p3] : List Int) hy2)) .nil) (At.keep (ts := [3, 10, 11]) (ids := []) rfl rfl ?_)
 refine At.thenC ?_
 refine W.seq ?_
 refine W.rg env [3, 10, 11, 22] [] ?_
 refine W.cond rfl (fun hb3 => ?_) (fun hb3 => ?_)
 · have H := of_true H hb3
   refine W.rg env [8, 9] [] ?_
   refine W.ret ?_
   refine At.rthen ?_
   cases H
   exact At.ret env.ty rfl rfl (fun q hq => by cases hq) (.refl _) hval
 · have H := of_false H hb3
   refine W.skip ?_
   refine At.thenC ?_
   refine W.seq ?_
   obtain ⟨hc4, H⟩ := of_must H
   obtain ⟨y5, hy6, H⟩ := of_bindO H
   refine W.region env [] [⟨.int .i64 (y5), [], 0, []⟩] rfl rfl rfl .nil (.free (Ctr.sim (.cons (Sim.rp_po hc4) (.cons (.refl _) .nil)) (c_moon_known__above fuel (y1.1.getD default) p3 hy6)) .nil) (At.keep (ts := [8, 9]) (ids := []) rfl rfl ?_)
   refine At.thenC ?_
   refine W.ret ?_
   cases H
   exact At.ret env.ty rfl rfl (fun q hq => by cases hq) (.refl _) hval
theorem c_moon_known__answers (p0 : moon_known) (p1 : Int) (p2 : Int) : Ctr Try.prog 18 [.rp [.int .i64 (p0.Sheet.Source), .int .i64 (p0.Sheet.Night), .int .i64 (p0.Sheet.Known), .int .i64 (p0.Sheet.Until), roL 5 enc_Row p0.Sheet.Rows, .int .i64 (p0.Sheet.Off.Num), .int .i64 (p0.Sheet.Off.Den), .int .i64 (p0.Sheet.Light.Lo), .int .i64 (p0.Sheet.Light.Hi), roL 3 enc_Roof p0.roofs, roL 6 enc_Sighting p0.sightings, .int .i64 (p0.slip.Lo.Num), .int .i64 (p0.slip.Lo.Den), .bool (p0.slip.Open), .int .i64 (p0.slip.Hi.Num), .int .i64 (p0.slip.Hi.Den)], .int .i64 (p1), .int .i64 (p2)] (.clo (.func 40) [] [.rp [.int .i64 (p2)], .rp [.int .i64 (p1)], .rp [.clo (.func 26) [.rp [.int .i64 (p0.Sheet.Source), .int .i64 (p0.Sheet.Night), .int .i64 (p0.Sheet.Known), .int .i64 (p0.Sheet.Until), roL 5 enc_Row p0.Sheet.Rows, .int .i64 (p0.Sheet.Off.Num), .int .i64 (p0.Sheet.Off.Den), .int .i64 (p0.Sheet.Light.Lo), .int .i64 (p0.Sheet.Light.Hi), roL 3 enc_Roof p0.roofs, roL 6 enc_Sighting p0.sightings, .int .i64 (p0.slip.Lo.Num), .int .i64 (p0.slip.Lo.Den), .bool (p0.slip.Open), .int .i64 (p0.slip.Hi.Num), .int .i64 (p0.slip.Hi.Den)]] []]]) := by
 refine Ctr.of_body (N := 11) Try.func18 (by kernel_rfl) (c := _) rfl Try.ntmps18 rfl (fun w0 h0 hval => ?_)
 refine W.rg env [0, 4, 5] [4, 5] ?_
 refine W.rg env [4, 5, 7] [4, 5, 7] ?_
 refine W.rg env [6] [4, 5, 7] ?_
 refine W.ret ?_
 exact At.ret env.ty rfl rfl (fun q hq => by cases hq) (Sim.cloL (.cons (.refl _) (.cons (.refl _) (.cons (Sim.rp (.cons (Sim.fnClo rfl) .nil)) .nil)))) hval
theorem c_moon_known__answers_1 (c0 : Int) (c1 : Int) (c2 : Int → Option Int) (c2_g : Nat) (c2_a c2_b : List AV) (c2_h : ∀ x0 r, c2 x0 = some r → Ctr Try.prog c2_g (c2_a ++ ([.int .i64 (x0)] ++ c2_b)) (.int .i64 (r))) {r : List (Int × Int)} (H : moon_known__answers_1 c0 c1 c2 = some r) : Iter Try.prog 40 [.rp [.int .i64 (c0)], .rp [.int .i64 (c1)], .rp [.clo (.func c2_g) c2_a c2_b]] (r.map (fun (x : Int × Int) => [.int .i64 (x.1), .int .i64 (x.2)])) := by
 unfold moon_known__answers_1 at H
 have hYl := Yl.start r
 skip
 refine Iter.of_body (N := 25) Try.func40 (by kernel_rfl) (c := _) rfl Try.ntmps40 rfl (fun w0 h0 lp J hJ hval hY => ?_)
 obtain ⟨hc1, H⟩ := of_must H
 obtain ⟨hc2, H⟩ := of_must H
 refine W.sr env [] [] [0, 2, 3, 9, 10] [] rfl rfl rfl (.cons hc1 (.cons hc2 .nil)) .nil ?_
 refine W.block ?_
 refine At.keep (ts := [0, 2, 3, 9, 10]) (ids := []) rfl rfl ?_
 obtain ⟨hn3, H⟩ := of_must H
 refine W.rangeGoI H hYl (fun i3 (s3 : Unit) => [(0, .fn (.yield lp) [] []), (2, .rp [.int .i64 (c1)]), (3, .rp [.clo (.func c2_g) c2_a c2_b]), (9, .int .i64 (((c0 - c1) + 1))), (10, .int .i64 ((i3 : Int)))]) (fun i3 (s3 : Unit) => []) (.cons .q (.cons .q (.cons .q (.cons .qi (.cons .qi .nil))))) .nil (fun k3 i3 s3 g r hle3 hYl H1 H2 K0 hK3 => ?_)
 refine W.rg env [0, 2, 3, 9, 10, 11] [] ?_
 refine W.seq ?_
 refine W.cond rfl (fun hb4 => ?_) (fun hb4 => ?_)
 · have hi3 : i3 < (((c0 - c1) + 1)).toNat := by have := of_decide_eq_true hb4; omega
   have H := H1 hi3
   refine W.skip ?_
   refine At.thenC ?_
   refine W.seq ?_
   refine W.block ?_
   refine W.rg env [0, 2, 3, 5, 9, 10] [] ?_
   refine W.seq ?_
   obtain ⟨hc5, H⟩ := of_must H
   obtain ⟨hc6, H⟩ := of_must H
   obtain ⟨y7, hy8, H⟩ := of_bindO H
   refine W.regionYf env hY [] 9 [⟨.int .i64 (y7), [], 0, []⟩] [] rfl rfl rfl rfl rfl rfl rfl rfl (fun b => rfl) rfl (fun b => by cases b <;> rfl) (.cons hc5 (.cons hc6 .nil)) (.free (c2_h (c1 + (i3 : Int)) _ hy8) .nil) .nil (fun b => .nil) (fun b => .nil) (Yl.item (fun (x : Int × Int) => [.int .i64 (x.1), .int .i64 (x.2)]) H hYl rfl) (fun b g1 hg2 => ?_)
   refine At.keep (ts := [0, 2, 3, 9, 10, 23]) (ids := []) rfl rfl ?_
   refine At.thenC ?_
   cases b
   · obtain rfl : g1 = 0 := hg2
     refine W.cond rfl (fun hb => ?_) (fun hb => ?_)
     · refine W.ret ?_
       refine At.rinb ?_
       refine At.rthen ?_
       refine At.rthen ?_
       refine At.rinb ?_
       exact At.iret rfl (.inl rfl) hval
     · exact absurd hb (by simp)
   · refine W.cond rfl (fun hb => ?_) (fun hb => ?_)
     · exact absurd hb (by simp)
     · obtain ⟨r, H, hYl⟩ := Yl.next H hYl (fun h => by cases h) (fun _ => hg2)
       refine W.skip ?_
       refine At.inb ?_
       refine At.thenC ?_
       refine W.region env [] [] rfl rfl rfl (.cons (by unfold inI; have := hn3; (try unfold maxLen at this); omega) .nil) .nil (At.keep (ts := [0, 2, 3, 9, 10]) (ids := []) rfl rfl ?_)
       refine At.thenK (At.keep (ts := [0, 2, 3, 9, 10]) (ids := []) rfl rfl ?_)
       exact At.conv (.cons .q (.cons .q (.cons .q (.cons .qi (.cons .qi .nil))))) .nil (hK3 hi3 () _ _ hYl H)
 · have H := H2 (by have := of_decide_eq_false hb4; omega)
   refine W.exit ?_
   refine At.xthen ?_
   refine At.xthen ?_
   refine At.xhere ?_
   refine At.iofNormal ?_
   exact At.iret rfl (.inr (Yl.fin (fun (x : Int × Int) => [.int .i64 (x.1), .int .i64 (x.2)]) H hYl)) hval
theorem c_moon_known__light (p0 : moon_known) (p1 : Int) : Ctr Try.prog 19 [.rp [.int .i64 (p0.Sheet.Source), .int .i64 (p0.Sheet.Night), .int .i64 (p0.Sheet.Known), .int .i64 (p0.Sheet.Until), roL 5 enc_Row p0.Sheet.Rows, .int .i64 (p0.Sheet.Off.Num), .int .i64 (p0.Sheet.Off.Den), .int .i64 (p0.Sheet.Light.Lo), .int .i64 (p0.Sheet.Light.Hi), roL 3 enc_Roof p0.roofs, roL 6 enc_Sighting p0.sightings, .int .i64 (p0.slip.Lo.Num), .int .i64 (p0.slip.Lo.Den), .bool (p0.slip.Open), .int .i64 (p0.slip.Hi.Num), .int .i64 (p0.slip.Hi.Den)], .int .i64 (p1)] (.agg [.int .i64 ((moon_known__light p0 p1).Lo), .int .i64 ((moon_known__light p0 p1).Hi)]) := by
 obtain ⟨r, H⟩ : ∃ r, moon_known__light p0 p1 = r := ⟨_, rfl⟩
 rw [H]
 unfold moon_known__light at H
 refine Ctr.of_body (N := 23) Try.func19 (by kernel_rfl) (c := _) rfl Try.ntmps19 rfl (fun w0 h0 hval => ?_)
 refine W.rg env [0, 1, 4] [4] ?_
 refine W.seq ?_
 refine W.rg env [0, 4, 5] [4] ?_
 refine W.block ?_
 refine W.rg env [0, 4, 5, 6] [4] ?_
 refine W.cond rfl (fun hb1 => ?_) (fun hb1 => ?_)
 · have H := of_true H hb1
   refine W.rg env [4] [4] ?_
   refine W.ret ?_
   refine At.rinb ?_
   refine At.rthen ?_
   cases H
   exact At.ret env.ty rfl rfl (fun q hq => by cases hq) (.refl _) hval
 · have H := of_false H hb1
   refine W.rg env [0, 4, 13] [4] ?_
   refine W.cond rfl (fun hb2 => ?_) (fun hb2 => ?_)
   · have H := of_true H hb2
     refine W.rg env [4] [4] ?_
     refine W.ret ?_
     refine At.rinb ?_
     refine At.rthen ?_
     cases H
     exact At.ret env.ty rfl rfl (fun q hq => by cases hq) (.refl _) hval
   · have H := of_false H hb2
     refine W.skip ?_
     refine At.inb ?_
     refine At.thenC ?_
     refine W.rg env [4] [4] ?_
     refine W.ret ?_
     cases H
     exact At.ret env.ty rfl rfl (fun q hq => by cases hq) (.refl _) hval
theorem c_moon_Whole (fuel : Nat) (p0 : Sky) (p1 : Int) (p2 : Int) (p3 : Int) (p4 : Int) {r : (Range × Int)} (H : moon_Whole fuel p0 p1 p2 p3 p4 = some r) : Ctr Try.prog 8 [.agg [roL 9 enc_Sheet p0.Sheets, roL 3 enc_Roof p0.Roofs, roL 6 enc_Sighting p0.Sightings], .int .i64 (p1), .int .i64 (p2), .int .i64 (p3), .int .i64 (p4)] (.tup [.agg [.int .i64 (r.1.Lo), .int .i64 (r.1.Hi)], .int .i64 (r.2)]) := by
 unfold moon_Whole at H
 refine Ctr.of_body (N := 45) Try.func8 (by kernel_rfl) (c := _) rfl Try.ntmps8 rfl (fun w0 h0 hval => ?_)
 refine W.rg env [1, 2, 3, 4, 5, 10] [5, 10] ?_
 refine W.scope ?_
 refine W.seq ?_
 obtain ⟨y1, hy2, H⟩ := of_bindO H
 refine W.region env [] [⟨.tup [.po y1.1.isSome [.int .i64 ((y1.1.getD default).Sheet.Source), .int .i64 ((y1.1.getD default).Sheet.Night), .int .i64 ((y1.1.getD default).Sheet.Known), .int .i64 ((y1.1.getD default).Sheet.Until), roL 5 enc_Row ((y1.1.getD default).Sheet.Rows), .int .i64 ((y1.1.getD default).Sheet.Off.Num), .int .i64 ((y1.1.getD default).Sheet.Off.Den), .int .i64 ((y1.1.getD default).Sheet.Light.Lo), .int .i64 ((y1.1.getD default).Sheet.Light.Hi), roL 3 enc_Roof ((y1.1.getD default).roofs), roL 6 enc_Sighting ((y1.1.getD default).sightings), .int .i64 ((y1.1.getD default).slip.Lo.Num), .int .i64 ((y1.1.getD default).slip.Lo.Den), .bool ((y1.1.getD default).slip.Open), .int .i64 ((y1.1.getD default).slip.Hi.Num), .int .i64 ((y1.1.getD default).slip.Hi.Den)], .int .i64 (y1.2)], [], 0, []⟩] rfl rfl rfl .nil (.free (Ctr.sim (.cons (.refl _) (.cons (.refl _) (.cons (.refl _) (.cons (Sim.lit (f := enc_Int) ([p3, p4] : List Int) rfl rfl (fun _ => rfl)) .nil)))) (c_moon_clearly fuel p0 p1 p2 ([p3, p4] : List Int) hy2)) .nil) (At.keep (ts := [3, 4, 10, 12, 13]) (ids := [10]) rfl rfl ?_)
 refine At.thenC ?_
 refine W.seq ?_
 refine W.rg env [3, 4, 10, 12, 13, 28] [10] ?_
 refine W.cond rfl (fun hb3 => ?_) (fun hb3 => ?_)
 · have H := of_true H hb3
   refine W.rg env [10, 11] [10] ?_
   refine W.ret ?_
   refine At.rthen ?_
   refine At.rins ?_
   cases H
   exact At.ret env.ty rfl rfl (fun q hq => by cases hq) (.refl _) hval
 · have H := of_false H hb3
   refine W.skip ?_
   refine At.thenC ?_
   refine W.rg env [3, 4, 10, 12, 14] [10, 14] ?_
   refine W.seq ?_
   refine W.label ?_
   refine At.thenC ?_
   refine W.seq ?_
   obtain ⟨hc4, H⟩ := of_must H
   refine W.sr env [] [⟨.clo (.func 40) [] [.rp [.int .i64 (p4)], .rp [.int .i64 (p3)], .rp [.clo (.func 26) [.rp [.int .i64 ((y1.1.getD default).Sheet.Source), .int .i64 ((y1.1.getD default).Sheet.Night), .int .i64 ((y1.1.getD default).Sheet.Known), .int .i64 ((y1.1.getD default).Sheet.Until), roL 5 enc_Row ((y1.1.getD default).Sheet.Rows), .int .i64 ((y1.1.getD default).Sheet.Off.Num), .int .i64 ((y1.1.getD default).Sheet.Off.Den), .int .i64 ((y1.1.getD default).Sheet.Light.Lo), .int .i64 ((y1.1.getD default).Sheet.Light.Hi), roL 3 enc_Roof ((y1.1.getD default).roofs), roL 6 enc_Sighting ((y1.1.getD default).sightings), .int .i64 ((y1.1.getD default).slip.Lo.Num), .int .i64 ((y1.1.getD default).slip.Lo.Den), .bool ((y1.1.getD default).slip.Open), .int .i64 ((y1.1.getD default).slip.Hi.Num), .int .i64 ((y1.1.getD default).slip.Hi.Den)]] []]], [], 0, []⟩] [10, 12, 14, 34] [10, 14] rfl rfl rfl .nil (.free (Ctr.sim (.cons (Sim.rp_po hc4) (.cons (.refl _) (.cons (.refl _) .nil))) (c_moon_known__answers (y1.1.getD default) p3 p4)) .nil) ?_
   refine W.joinC H (fun (s5 : Int) => [(10, .lp 10 0), (12, .po y1.1.isSome [.int .i64 ((y1.1.getD default).Sheet.Source), .int .i64 ((y1.1.getD default).Sheet.Night), .int .i64 ((y1.1.getD default).Sheet.Known), .int .i64 ((y1.1.getD default).Sheet.Until), roL 5 enc_Row ((y1.1.getD default).Sheet.Rows), .int .i64 ((y1.1.getD default).Sheet.Off.Num), .int .i64 ((y1.1.getD default).Sheet.Off.Den), .int .i64 ((y1.1.getD default).Sheet.Light.Lo), .int .i64 ((y1.1.getD default).Sheet.Light.Hi), roL 3 enc_Roof ((y1.1.getD default).roofs), roL 6 enc_Sighting ((y1.1.getD default).sightings), .int .i64 ((y1.1.getD default).slip.Lo.Num), .int .i64 ((y1.1.getD default).slip.Lo.Den), .bool ((y1.1.getD default).slip.Open), .int .i64 ((y1.1.getD default).slip.Hi.Num), .int .i64 ((y1.1.getD default).slip.Hi.Den)]), (14, .lp 14 0)]) (fun (s5 : Int) => [(10, .cells [.int .i64 (0), .int .i64 (0)]), (14, .cells [.int .i64 (s5)])]) (fun s5 H => ?_) (fun k5 H hK5 => ?_)
   · obtain ⟨hc6, H⟩ := of_must H
     refine W.sr env [] [⟨.agg [.int .i64 ((moon_known__light (y1.1.getD default) s5).Lo), .int .i64 ((moon_known__light (y1.1.getD default) s5).Hi)], [], 0, []⟩] [10, 11] [10] rfl rfl rfl .nil (.free (Ctr.sim (.cons (Sim.rp_po hc6) (.cons (.refl _) .nil)) (c_moon_known__light (y1.1.getD default) s5)) .nil) ?_
     refine W.ret ?_
     refine At.rins ?_
     cases H
     exact At.ret env.ty rfl rfl (fun q hq => by cases hq) (.refl _) hval
   · refine W.block ?_
     obtain ⟨it7, hit7, H⟩ := of_bindO H
     refine At.keep (ts := [10, 12, 14, 34]) (ids := [10, 14]) rfl rfl ?_
     refine W.listGo H (fun (x : Int × Int) => [.int .i64 (x.1), .int .i64 (x.2)]) (c_moon_known__answers_1 p4 p3 (fun x0 => moon_known__above fuel (y1.1.getD default) x0) 26 ([.rp [.int .i64 ((y1.1.getD default).Sheet.Source), .int .i64 ((y1.1.getD default).Sheet.Night), .int .i64 ((y1.1.getD default).Sheet.Known), .int .i64 ((y1.1.getD default).Sheet.Until), roL 5 enc_Row ((y1.1.getD default).Sheet.Rows), .int .i64 ((y1.1.getD default).Sheet.Off.Num), .int .i64 ((y1.1.getD default).Sheet.Off.Den), .int .i64 ((y1.1.getD default).Sheet.Light.Lo), .int .i64 ((y1.1.getD default).Sheet.Light.Hi), roL 3 enc_Roof ((y1.1.getD default).roofs), roL 6 enc_Sighting ((y1.1.getD default).sightings), .int .i64 ((y1.1.getD default).slip.Lo.Num), .int .i64 ((y1.1.getD default).slip.Lo.Den), .bool ((y1.1.getD default).slip.Open), .int .i64 ((y1.1.getD default).slip.Hi.Num), .int .i64 ((y1.1.getD default).slip.Hi.Den)]]) [] (fun x0 r h => c_moon_known__above fuel (y1.1.getD default) x0 h) hit7) rfl (fun _ => ⟨rfl, rfl⟩) rfl rfl rfl (fun (s8 : Int) => [(10, .cells [.int .i64 (0), .int .i64 (0)]), (14, .cells [.int .i64 (s8)])]) (.cons .q (.cons .q .nil)) (fun (x7 : Int × Int) => [(10, .lp 10 0), (14, .lp 14 0), (16, .int .i64 (x7.2))]) (fun (x7 : Int × Int) (s8 : Int) => [(10, .cells [.int .i64 (0), .int .i64 (0)]), (14, .cells [.int .i64 (s8)])]) (fun e (sx : Int) => e = Exit.exit 0 ∧ k5 sx = some r) (fun _ (sx : Int) => [(10, .cells [.int .i64 (0), .int .i64 (0)]), (14, .cells [.int .i64 (sx)])]) (fun e s h => .inr ⟨0, h.1⟩) hval (fun h1 vs gh st lp x7 s8 K hK => ?_) (fun k8 h1 vs gh st lp x7 s8 H Qr hQ8 hX8 => ?_) (fun s8 H => ?_) (fun e sx h => ?_)
     · refine W.region env [] [] rfl rfl rfl .nil .nil (At.keep (ts := [10, 14, 16]) (ids := [10, 14]) rfl rfl ?_)
       refine At.thenK (At.keep (ts := [10, 14, 16]) (ids := [10, 14]) rfl rfl ?_)
       exact hK
     · refine W.block ?_
       refine W.rg env [10, 14, 37] [10, 14] ?_
       refine W.block ?_
       refine W.rg env [10, 14, 37, 38] [10, 14] ?_
       refine W.cond rfl (fun hb9 => ?_) (fun hb9 => ?_)
       · have H := of_true H hb9
         refine W.rg env [] [10, 14] ?_
         refine W.exit ?_
         refine At.xpast rfl ?_
         refine At.xpast rfl ?_
         refine At.keep (ts := []) (ids := [10, 14]) rfl rfl ?_
         exact At.conv .nil (.cons .q (.cons .q .nil)) (hX8 (.exit 0) 0 ⟨rfl, H⟩)
       · have H := of_false H hb9
         refine W.rg env [10, 14, 40] [10, 14] ?_
         refine W.cond rfl (fun hb10 => ?_) (fun hb10 => ?_)
         · have H := of_true H hb10
           refine W.region env [] [] rfl rfl rfl .nil .nil (At.keep (ts := [10]) (ids := [10, 14]) rfl rfl ?_)
           refine At.inb ?_
           refine At.inb ?_
           refine At.keep (ts := []) (ids := [10, 14]) rfl rfl ?_
           exact At.conv .nil (.cons .q (.cons .q .nil)) (hQ8 2 H)
         · have H := of_false H hb10
           refine W.skip ?_
           refine At.inb ?_
           refine At.inb ?_
           refine At.keep (ts := []) (ids := [10, 14]) rfl rfl ?_
           exact At.conv .nil (.cons .q (.cons .q .nil)) (hQ8 s8 H)
     · refine At.inb ?_
       refine At.thenK (At.keep (ts := [10, 12, 14]) (ids := [10, 14]) rfl rfl ?_)
       exact At.conv (.cons .q (.cons .q (.cons .q .nil))) (.cons .q (.cons .q .nil)) (hK5 s8 H)
     · obtain ⟨rfl, H⟩ := h
       refine At.xhere ?_
       refine At.thenK (At.keep (ts := [10, 12, 14]) (ids := [10, 14]) rfl rfl ?_)
       exact At.conv (.cons .q (.cons .q (.cons .q .nil))) (.cons .q (.cons .q .nil)) (hK5 sx H)
theorem c_bylaw_areAll_Version (p0 : (List Version)) (p1 : Int) (p2 : Version → Option Int) (p2_g : Nat) (p2_a p2_b : List AV) (p2_h : ∀ x0 r, p2 x0 = some r → Ctr Try.prog p2_g (p2_a ++ ([.agg [.int .i64 (x0.Source), .int .i64 (x0.Class), .int .i64 (x0.From), .int .i64 (x0.On.Lo), .int .i64 (x0.On.Hi), .int .i64 (x0.Off.Lo), .int .i64 (x0.Off.Hi), .int .i64 (x0.Moon), .int .i64 (x0.Fog), .int .i64 (x0.Known), .int .i64 (x0.Until)]] ++ p2_b)) (.int .i64 (r))) (p3 : Version → Option Int) (p3_g : Nat) (p3_a p3_b : List AV) (p3_h : ∀ x0 r, p3 x0 = some r → Ctr Try.prog p3_g (p3_a ++ ([.agg [.int .i64 (x0.Source), .int .i64 (x0.Class), .int .i64 (x0.From), .int .i64 (x0.On.Lo), .int .i64 (x0.On.Hi), .int .i64 (x0.Off.Lo), .int .i64 (x0.Off.Hi), .int .i64 (x0.Moon), .int .i64 (x0.Fog), .int .i64 (x0.Known), .int .i64 (x0.Until)]] ++ p3_b)) (.int .i64 (r))) {r : Bool} (H : bylaw_areAll_Version p0 p1 p2 p3 = some r) : Ctr Try.prog 51 [roL 11 enc_Version p0, .int .i64 (p1), .clo (.func p2_g) p2_a p2_b, .clo (.func p3_g) p3_a p3_b] (.bool (r)) := by
 unfold bylaw_areAll_Version at H
 refine Ctr.of_body (N := 44) Try.func51 (by kernel_rfl) (c := _) rfl Try.ntmps51 rfl (fun w0 h0 hval => ?_)
 refine W.rg env [0, 1, 2, 3] [] ?_
 refine W.seq ?_
 refine W.rg env [0, 1, 2, 3, 11, 12, 13] [] ?_
 refine W.block ?_
 refine At.keep (ts := [0, 1, 2, 3, 11, 12, 13]) (ids := []) rfl rfl ?_
 refine W.len (t := 11) rfl (fun (hn1 : p0.length ≤ maxLen) => ?_)
 refine W.rangeGo H (fun i1 (s1 : Unit) => [(0, roL 11 enc_Version p0), (1, .int .i64 (p1)), (2, .clo (.func p2_g) p2_a p2_b), (3, .clo (.func p3_g) p3_a p3_b), (11, roL 11 enc_Version p0), (12, .int .i64 (((p0.length : Nat) : Int))), (13, .int .i64 ((i1 : Int)))]) (fun i1 (s1 : Unit) => []) (.cons .q (.cons .qi (.cons .q (.cons .q (.cons .q (.cons .qi (.cons .qi .nil))))))) .nil (fun k1 i1 s1 hle1 H1 H2 K0 hK1 => ?_)
 refine W.rg env [0, 1, 2, 3, 11, 12, 13, 14] [] ?_
 refine W.seq ?_
 refine W.cond rfl (fun hb2 => ?_) (fun hb2 => ?_)
 · have hi1 : i1 < p0.length := by have := of_decide_eq_true hb2; omega
   have H := H1 hi1
   refine W.skip ?_
   refine At.thenC ?_
   refine W.seq ?_
   refine W.block ?_
   refine W.sr env [] [] [0, 1, 2, 3, 9, 10, 11, 12, 13] [10] rfl rfl rfl (.cons (⟨by omega, by omega⟩ : 0 ≤ (i1 : Int) ∧ (i1 : Int) < ((p0.length : Nat) : Int)) .nil) .nil ?_
   refine W.seq ?_
   obtain ⟨y3, hy4, H⟩ := of_bindO H
   obtain ⟨hc5, H⟩ := of_must H
   obtain ⟨hc6, H⟩ := of_must H
   obtain ⟨y7, hy8, H⟩ := of_bindO H
   obtain ⟨y9, hy10, H⟩ := of_bindO H
   refine W.region env [] [⟨.int .i64 (y3), [], 0, []⟩, ⟨.int .i64 (y7), [], 0, []⟩, ⟨.int .i64 (y9), [], 0, []⟩] rfl rfl (by kernel_rfl) (.cons (fun h => h) (.cons (fun h => h) (.cons hc5 (.cons (fun h => h) (.cons hc6 (.cons (fun h => h) (.cons (fun h => h) (.cons (fun h => h) (.cons (fun h => h) (.cons (fun h => h) (.cons (fun h => h) (.cons (fun h => h) (.cons (fun h => h) (.cons (fun h => h) (.cons (fun h => h) (.cons (fun hW h => by revert hW h; first | (simp +contextual; done) | grind) (.cons (fun h => by rw [h]; rfl) .nil))))))))))))))))) (.free (p2_h (p0.getD i1 default) _ hy4) (.on (fun hW => p3_h (p0.getD (((i1 : Int) - 1)).toNat default) _ (of_true hy8 hW)) (.on (fun hW => p3_h (p0.getD i1 default) _ (of_true hy10 hW)) .nil))) (At.keep (ts := [0, 1, 2, 3, 11, 12, 13, 38]) (ids := []) rfl rfl ?_)
   refine At.thenC ?_
   refine W.cond rfl (fun hb11 => ?_) (fun hb11 => ?_)
   · have H := of_true H hb11
     refine W.rg env [8] [] ?_
     refine W.ret ?_
     refine At.rinb ?_
     refine At.rthen ?_
     refine At.rthen ?_
     refine At.rinb ?_
     refine At.rthen ?_
     cases H
     exact At.ret env.ty rfl rfl (fun q hq => by cases hq) (.refl _) hval
   · have H := of_false H hb11
     refine W.skip ?_
     refine At.inb ?_
     refine At.thenC ?_
     refine W.region env [] [] rfl rfl rfl (.cons (by unfold inI; have := hn1; (try unfold maxLen at this); omega) .nil) .nil (At.keep (ts := [0, 1, 2, 3, 11, 12, 13]) (ids := []) rfl rfl ?_)
     refine At.thenK (At.keep (ts := [0, 1, 2, 3, 11, 12, 13]) (ids := []) rfl rfl ?_)
     exact At.conv (.cons .q (.cons .qi (.cons .q (.cons .q (.cons .q (.cons .qi (.cons .qi .nil))))))) .nil (hK1 hi1 () H)
 · have H := H2 (by have := of_decide_eq_false hb2; omega)
   refine W.exit ?_
   refine At.xthen ?_
   refine At.xthen ?_
   refine At.xhere ?_
   refine At.thenC ?_
   refine W.rg env [8] [] ?_
   refine W.ret ?_
   cases H
   exact At.ret env.ty rfl rfl (fun q hq => by cases hq) (.refl _) hval
theorem c_bylaw_in (p0 : Int) (p1 : Int) (p2 : Int) : Ctr Try.prog 58 [.int .i64 (p0), .int .i64 (p1), .int .i64 (p2)] (.bool ((bylaw_in p0 p1 p2))) := by
 obtain ⟨r, H⟩ : ∃ r, bylaw_in p0 p1 p2 = r := ⟨_, rfl⟩
 rw [H]
 unfold bylaw_in at H
 refine Ctr.of_body (N := 15) Try.func58 (by kernel_rfl) (c := _) rfl Try.ntmps58 rfl (fun w0 h0 hval => ?_)
 refine W.rg env [0, 1, 2] [] ?_
 refine W.sr env [] [] [6] [] rfl rfl rfl (.cons (fun h => h) (.cons (fun h => h) (.cons (fun h => h) .nil))) .nil ?_
 refine W.ret ?_
 cases H
 exact At.ret env.ty rfl rfl (fun q hq => by cases hq) (.refl _) hval
theorem c_bylaw_isNight (p0 : Int) : Ctr Try.prog 32 [.int .i64 (p0)] (.bool ((bylaw_isNight p0))) := by
 obtain ⟨r, H⟩ : ∃ r, bylaw_isNight p0 = r := ⟨_, rfl⟩
 rw [H]
 unfold bylaw_isNight at H
 refine Ctr.of_body (N := 5) Try.func32 (by kernel_rfl) (c := _) rfl Try.ntmps32 rfl (fun w0 h0 hval => ?_)
 refine W.rg env [0] [] ?_
 refine W.sr env [] [⟨.bool ((bylaw_in p0 0 100000)), [], 0, []⟩] [2] [] rfl rfl rfl .nil (.free (c_bylaw_in p0 0 100000) .nil) ?_
 refine W.ret ?_
 cases H
 exact At.ret env.ty rfl rfl (fun q hq => by cases hq) (.refl _) hval
theorem c_bylaw_isRange (p0 : Range) (p1 : Int) : Ctr Try.prog 76 [.agg [.int .i64 (p0.Lo), .int .i64 (p0.Hi)], .int .i64 (p1)] (.bool ((bylaw_isRange p0 p1))) := by
 obtain ⟨r, H⟩ : ∃ r, bylaw_isRange p0 p1 = r := ⟨_, rfl⟩
 rw [H]
 unfold bylaw_isRange at H
 refine Ctr.of_body (N := 21) Try.func76 (by kernel_rfl) (c := _) rfl Try.ntmps76 rfl (fun w0 h0 hval => ?_)
 refine W.rg env [1, 2] [2] ?_
 refine W.sr env [] [] [4] [] rfl rfl rfl (.cons (fun h => h) (.cons (fun h => h) (.cons (fun h => h) (.cons (fun h => h) (.cons (fun h => h) (.cons (fun h => h) (.cons (fun h => h) (.cons (fun h => h) (.cons (fun h => h) .nil))))))))) .nil ?_
 refine W.ret ?_
 cases H
 exact At.ret env.ty rfl rfl (fun q hq => by cases hq) (.refl _) hval
theorem c_bylaw_CheckVersion (p0 : Version) {r : Int} (H : bylaw_CheckVersion p0 = some r) : Ctr Try.prog 52 [.agg [.int .i64 (p0.Source), .int .i64 (p0.Class), .int .i64 (p0.From), .int .i64 (p0.On.Lo), .int .i64 (p0.On.Hi), .int .i64 (p0.Off.Lo), .int .i64 (p0.Off.Hi), .int .i64 (p0.Moon), .int .i64 (p0.Fog), .int .i64 (p0.Known), .int .i64 (p0.Until)]] (.int .i64 (r)) := by
 unfold bylaw_CheckVersion at H
 refine Ctr.of_body (N := 63) Try.func52 (by kernel_rfl) (c := _) rfl Try.ntmps52 rfl (fun w0 h0 hval => ?_)
 refine W.rg env [1] [1] ?_
 refine W.seq ?_
 obtain ⟨hc1, H⟩ := of_must H
 refine W.sr env [] [⟨.bool ((bylaw_in p0.Source 1 99999)), [], 0, []⟩, ⟨.bool ((bylaw_in p0.Class 1 9)), [], 0, []⟩, ⟨.bool ((bylaw_isNight p0.From)), [], 0, []⟩, ⟨.bool ((bylaw_isRange p0.On 600)), [], 0, []⟩, ⟨.bool ((bylaw_isRange p0.Off 600)), [], 0, []⟩, ⟨.bool ((bylaw_in p0.Moon 0 1001)), [], 0, []⟩, ⟨.bool ((bylaw_in p0.Fog 0 600)), [], 0, []⟩, ⟨.bool ((bylaw_isNight p0.Known)), [], 0, []⟩, ⟨.bool ((bylaw_in p0.Until (p0.Known + 1) 100000)), [], 0, []⟩] [62] [] rfl rfl rfl (.cons (fun h => h) (.cons (fun h => h) (.cons (fun h => h) (.cons (fun h => by rw [h]; rfl) (.cons (fun h => h) (.cons (fun h => h) (.cons (fun h => h) (.cons (fun h => by rw [h]; rfl) (.cons (fun h => h) (.cons (fun h => h) (.cons (fun h => h) (.cons (fun h => by rw [h]; rfl) (.cons (fun h => h) (.cons (fun h => h) (.cons (fun h => h) (.cons (fun h => by rw [h]; rfl) (.cons (fun h => h) (.cons (fun h => h) (.cons (fun h => h) (.cons (fun h => by rw [h]; rfl) (.cons (fun h => h) (.cons (fun h => h) (.cons (fun h => h) (.cons (fun h => by rw [h]; rfl) (.cons (fun h => h) (.cons (fun h => h) (.cons (fun h => h) (.cons (fun h => by rw [h]; rfl) (.cons (fun h => h) (.cons (fun h => h) (.cons (fun h => h) (.cons (fun h => h) (.cons (fun h => h) (.cons hc1 (.cons (fun h => h) (.cons (fun h => h) (.cons (fun h => h) (.cons (fun h => h) (.cons (fun h => h) (.cons (fun hW h => by revert hW h; first | (simp +contextual; done) | grind) (.cons (fun h => by rw [h]; rfl) .nil))))))))))))))))))))))))))))))))))))))))) (.free (c_bylaw_in p0.Source 1 99999) (.on (fun hW => c_bylaw_in p0.Class 1 9) (.on (fun hW => c_bylaw_isNight p0.From) (.on (fun hW => c_bylaw_isRange p0.On 600) (.on (fun hW => c_bylaw_isRange p0.Off 600) (.on (fun hW => c_bylaw_in p0.Moon 0 1001) (.on (fun hW => c_bylaw_in p0.Fog 0 600) (.on (fun hW => c_bylaw_isNight p0.Known) (.on (fun hW => c_bylaw_in p0.Until (p0.Known + 1) 100000) .nil))))))))) ?_
 refine W.cond rfl (fun hb2 => ?_) (fun hb2 => ?_)
 · have H := of_true H hb2
   refine W.rg env [2] [] ?_
   refine W.ret ?_
   refine At.rthen ?_
   cases H
   exact At.ret env.ty rfl rfl (fun q hq => by cases hq) (.refl _) hval
 · have H := of_false H hb2
   refine W.skip ?_
   refine At.thenC ?_
   refine W.rg env [2] [] ?_
   refine W.ret ?_
   cases H
   exact At.ret env.ty rfl rfl (fun q hq => by cases hq) (.refl _) hval
theorem c_bylaw_sourceOf (p0 : Version) : Ctr Try.prog 53 [.agg [.int .i64 (p0.Source), .int .i64 (p0.Class), .int .i64 (p0.From), .int .i64 (p0.On.Lo), .int .i64 (p0.On.Hi), .int .i64 (p0.Off.Lo), .int .i64 (p0.Off.Hi), .int .i64 (p0.Moon), .int .i64 (p0.Fog), .int .i64 (p0.Known), .int .i64 (p0.Until)]] (.int .i64 ((bylaw_sourceOf p0))) := by
 obtain ⟨r, H⟩ : ∃ r, bylaw_sourceOf p0 = r := ⟨_, rfl⟩
 rw [H]
 unfold bylaw_sourceOf at H
 refine Ctr.of_body (N := 5) Try.func53 (by kernel_rfl) (c := _) rfl Try.ntmps53 rfl (fun w0 h0 hval => ?_)
 refine W.rg env [1] [1] ?_
 refine W.rg env [2] [] ?_
 refine W.ret ?_
 cases H
 exact At.ret env.ty rfl rfl (fun q hq => by cases hq) (.refl _) hval
theorem c_bylaw_areAll_Street (p0 : (List Street)) (p1 : Int) (p2 : Street → Option Int) (p2_g : Nat) (p2_a p2_b : List AV) (p2_h : ∀ x0 r, p2 x0 = some r → Ctr Try.prog p2_g (p2_a ++ ([.agg [.int .i64 (x0.Id), .int .i64 (x0.Class), .int .i64 (x0.District), .int .i64 (x0.First), .int .i64 (x0.Many)]] ++ p2_b)) (.int .i64 (r))) (p3 : Street → Option Int) (p3_g : Nat) (p3_a p3_b : List AV) (p3_h : ∀ x0 r, p3 x0 = some r → Ctr Try.prog p3_g (p3_a ++ ([.agg [.int .i64 (x0.Id), .int .i64 (x0.Class), .int .i64 (x0.District), .int .i64 (x0.First), .int .i64 (x0.Many)]] ++ p3_b)) (.int .i64 (r))) {r : Bool} (H : bylaw_areAll_Street p0 p1 p2 p3 = some r) : Ctr Try.prog 54 [roL 5 enc_Street p0, .int .i64 (p1), .clo (.func p2_g) p2_a p2_b, .clo (.func p3_g) p3_a p3_b] (.bool (r)) := by
 unfold bylaw_areAll_Street at H
 refine Ctr.of_body (N := 44) Try.func54 (by kernel_rfl) (c := _) rfl Try.ntmps54 rfl (fun w0 h0 hval => ?_)
 refine W.rg env [0, 1, 2, 3] [] ?_
 refine W.seq ?_
 refine W.rg env [0, 1, 2, 3, 11, 12, 13] [] ?_
 refine W.block ?_
 refine At.keep (ts := [0, 1, 2, 3, 11, 12, 13]) (ids := []) rfl rfl ?_
 refine W.len (t := 11) rfl (fun (hn1 : p0.length ≤ maxLen) => ?_)
 refine W.rangeGo H (fun i1 (s1 : Unit) => [(0, roL 5 enc_Street p0), (1, .int .i64 (p1)), (2, .clo (.func p2_g) p2_a p2_b), (3, .clo (.func p3_g) p3_a p3_b), (11, roL 5 enc_Street p0), (12, .int .i64 (((p0.length : Nat) : Int))), (13, .int .i64 ((i1 : Int)))]) (fun i1 (s1 : Unit) => []) (.cons .q (.cons .qi (.cons .q (.cons .q (.cons .q (.cons .qi (.cons .qi .nil))))))) .nil (fun k1 i1 s1 hle1 H1 H2 K0 hK1 => ?_)
 refine W.rg env [0, 1, 2, 3, 11, 12, 13, 14] [] ?_
 refine W.seq ?_
 refine W.cond rfl (fun hb2 => ?_) (fun hb2 => ?_)
 · have hi1 : i1 < p0.length := by have := of_decide_eq_true hb2; omega
   have H := H1 hi1
   refine W.skip ?_
   refine At.thenC ?_
   refine W.seq ?_
   refine W.block ?_
   refine W.sr env [] [] [0, 1, 2, 3, 9, 10, 11, 12, 13] [10] rfl rfl rfl (.cons (⟨by omega, by omega⟩ : 0 ≤ (i1 : Int) ∧ (i1 : Int) < ((p0.length : Nat) : Int)) .nil) .nil ?_
   refine W.seq ?_
   obtain ⟨y3, hy4, H⟩ := of_bindO H
   obtain ⟨hc5, H⟩ := of_must H
   obtain ⟨hc6, H⟩ := of_must H
   obtain ⟨y7, hy8, H⟩ := of_bindO H
   obtain ⟨y9, hy10, H⟩ := of_bindO H
   refine W.region env [] [⟨.int .i64 (y3), [], 0, []⟩, ⟨.int .i64 (y7), [], 0, []⟩, ⟨.int .i64 (y9), [], 0, []⟩] rfl rfl (by kernel_rfl) (.cons (fun h => h) (.cons (fun h => h) (.cons hc5 (.cons (fun h => h) (.cons hc6 (.cons (fun h => h) (.cons (fun h => h) (.cons (fun h => h) (.cons (fun h => h) (.cons (fun h => h) (.cons (fun h => h) (.cons (fun h => h) (.cons (fun h => h) (.cons (fun h => h) (.cons (fun h => h) (.cons (fun hW h => by revert hW h; first | (simp +contextual; done) | grind) (.cons (fun h => by rw [h]; rfl) .nil))))))))))))))))) (.free (p2_h (p0.getD i1 default) _ hy4) (.on (fun hW => p3_h (p0.getD (((i1 : Int) - 1)).toNat default) _ (of_true hy8 hW)) (.on (fun hW => p3_h (p0.getD i1 default) _ (of_true hy10 hW)) .nil))) (At.keep (ts := [0, 1, 2, 3, 11, 12, 13, 38]) (ids := []) rfl rfl ?_)
   refine At.thenC ?_
   refine W.cond rfl (fun hb11 => ?_) (fun hb11 => ?_)
   · have H := of_true H hb11
     refine W.rg env [8] [] ?_
     refine W.ret ?_
     refine At.rinb ?_
     refine At.rthen ?_
     refine At.rthen ?_
     refine At.rinb ?_
     refine At.rthen ?_
     cases H
     exact At.ret env.ty rfl rfl (fun q hq => by cases hq) (.refl _) hval
   · have H := of_false H hb11
     refine W.skip ?_
     refine At.inb ?_
     refine At.thenC ?_
     refine W.region env [] [] rfl rfl rfl (.cons (by unfold inI; have := hn1; (try unfold maxLen at this); omega) .nil) .nil (At.keep (ts := [0, 1, 2, 3, 11, 12, 13]) (ids := []) rfl rfl ?_)
     refine At.thenK (At.keep (ts := [0, 1, 2, 3, 11, 12, 13]) (ids := []) rfl rfl ?_)
     exact At.conv (.cons .q (.cons .qi (.cons .q (.cons .q (.cons .q (.cons .qi (.cons .qi .nil))))))) .nil (hK1 hi1 () H)
 · have H := H2 (by have := of_decide_eq_false hb2; omega)
   refine W.exit ?_
   refine At.xthen ?_
   refine At.xthen ?_
   refine At.xhere ?_
   refine At.thenC ?_
   refine W.rg env [8] [] ?_
   refine W.ret ?_
   cases H
   exact At.ret env.ty rfl rfl (fun q hq => by cases hq) (.refl _) hval
theorem c_bylaw_CheckStreet (p0 : Street) {r : Int} (H : bylaw_CheckStreet p0 = some r) : Ctr Try.prog 55 [.agg [.int .i64 (p0.Id), .int .i64 (p0.Class), .int .i64 (p0.District), .int .i64 (p0.First), .int .i64 (p0.Many)]] (.int .i64 (r)) := by
 unfold bylaw_CheckStreet at H
 refine Ctr.of_body (N := 40) Try.func55 (by kernel_rfl) (c := _) rfl Try.ntmps55 rfl (fun w0 h0 hval => ?_)
 refine W.rg env [1] [1] ?_
 refine W.seq ?_
 obtain ⟨hc1, H⟩ := of_must H
 obtain ⟨hc2, H⟩ := of_must H
 refine W.sr env [] [⟨.bool ((bylaw_in p0.Id 1 99)), [], 0, []⟩, ⟨.bool ((bylaw_in p0.Class 1 9)), [], 0, []⟩, ⟨.bool ((bylaw_in p0.District 1 9)), [], 0, []⟩, ⟨.bool ((bylaw_in p0.First 1 999)), [], 0, []⟩, ⟨.bool ((bylaw_in p0.Many 1 200)), [], 0, []⟩] [39] [] rfl rfl rfl (.cons (fun h => h) (.cons (fun h => h) (.cons (fun h => h) (.cons (fun h => by rw [h]; rfl) (.cons (fun h => h) (.cons (fun h => h) (.cons (fun h => h) (.cons (fun h => by rw [h]; rfl) (.cons (fun h => h) (.cons (fun h => h) (.cons (fun h => h) (.cons (fun h => by rw [h]; rfl) (.cons (fun h => h) (.cons (fun h => h) (.cons (fun h => h) (.cons (fun h => by rw [h]; rfl) (.cons (fun h => h) (.cons (fun h => h) (.cons hc1 (.cons (fun h => h) (.cons (fun h => h) (.cons hc2 (.cons (fun h => h) (.cons (fun h => h) (.cons (fun h => by rw [h]; rfl) .nil))))))))))))))))))))))))) (.free (c_bylaw_in p0.Id 1 99) (.on (fun hW => c_bylaw_in p0.Class 1 9) (.on (fun hW => c_bylaw_in p0.District 1 9) (.on (fun hW => c_bylaw_in p0.First 1 999) (.on (fun hW => c_bylaw_in p0.Many 1 200) .nil))))) ?_
 refine W.cond rfl (fun hb3 => ?_) (fun hb3 => ?_)
 · have H := of_true H hb3
   refine W.rg env [2] [] ?_
   refine W.ret ?_
   refine At.rthen ?_
   cases H
   exact At.ret env.ty rfl rfl (fun q hq => by cases hq) (.refl _) hval
 · have H := of_false H hb3
   refine W.skip ?_
   refine At.thenC ?_
   refine W.rg env [2] [] ?_
   refine W.ret ?_
   cases H
   exact At.ret env.ty rfl rfl (fun q hq => by cases hq) (.refl _) hval
theorem c_bylaw_idOf (p0 : Street) : Ctr Try.prog 56 [.agg [.int .i64 (p0.Id), .int .i64 (p0.Class), .int .i64 (p0.District), .int .i64 (p0.First), .int .i64 (p0.Many)]] (.int .i64 ((bylaw_idOf p0))) := by
 obtain ⟨r, H⟩ : ∃ r, bylaw_idOf p0 = r := ⟨_, rfl⟩
 rw [H]
 unfold bylaw_idOf at H
 refine Ctr.of_body (N := 5) Try.func56 (by kernel_rfl) (c := _) rfl Try.ntmps56 rfl (fun w0 h0 hval => ?_)
 refine W.rg env [1] [1] ?_
 refine W.rg env [2] [] ?_
 refine W.ret ?_
 cases H
 exact At.ret env.ty rfl rfl (fun q hq => by cases hq) (.refl _) hval
theorem c_bylaw_has (p0 : Street) (p1 : Int) {r : Bool} (H : bylaw_has p0 p1 = some r) : Ctr Try.prog 57 [.agg [.int .i64 (p0.Id), .int .i64 (p0.Class), .int .i64 (p0.District), .int .i64 (p0.First), .int .i64 (p0.Many)], .int .i64 (p1)] (.bool (r)) := by
 unfold bylaw_has at H
 refine Ctr.of_body (N := 15) Try.func57 (by kernel_rfl) (c := _) rfl Try.ntmps57 rfl (fun w0 h0 hval => ?_)
 refine W.rg env [1, 2] [2] ?_
 obtain ⟨hc1, H⟩ := of_must H
 obtain ⟨hc2, H⟩ := of_must H
 refine W.sr env [] [⟨.bool ((bylaw_in p1 p0.First ((p0.First + p0.Many) - 1))), [], 0, []⟩] [4] [] rfl rfl rfl (.cons hc1 (.cons hc2 .nil)) (.free (c_bylaw_in p1 p0.First ((p0.First + p0.Many) - 1)) .nil) ?_
 refine W.ret ?_
 cases H
 exact At.ret env.ty rfl rfl (fun q hq => by cases hq) (.refl _) hval
theorem c_bylaw_Check (p0 : Bylaw) {r : Int} (H : bylaw_Check p0 = some r) : Ctr Try.prog 29 [.agg [roL 11 enc_Version p0.Versions, roL 5 enc_Street p0.Streets]] (.int .i64 (r)) := by
 unfold bylaw_Check at H
 refine Ctr.of_body (N := 46) Try.func29 (by kernel_rfl) (c := _) rfl Try.ntmps29 rfl (fun w0 h0 hval => ?_)
 refine W.rg env [1] [1] ?_
 refine W.seq ?_
 refine W.seq ?_
 obtain ⟨y1, hy2, H⟩ := of_bindO H
 obtain ⟨y3, hy4, H⟩ := of_bindO H
 refine W.region env [] [⟨.bool (y1), [], 0, []⟩, ⟨.bool (y3), [], 0, []⟩] rfl rfl rfl (.cons (fun h => h) (.cons (fun h => h) (.cons (fun h => h) (.cons (fun h => by rw [h]; rfl) .nil)))) (.free (c_bylaw_areAll_Version p0.Versions 60 (fun x0 => bylaw_CheckVersion x0) 52 [] [] (fun x0 r h => c_bylaw_CheckVersion x0 h) (fun x0 => some (bylaw_sourceOf x0)) 53 [] [] (fun x0 r h => by cases h; exact c_bylaw_sourceOf x0) hy2) (.on (fun hW => c_bylaw_areAll_Street p0.Streets 20 (fun x0 => bylaw_CheckStreet x0) 55 [] [] (fun x0 r h => c_bylaw_CheckStreet x0 h) (fun x0 => some (bylaw_idOf x0)) 56 [] [] (fun x0 r h => by cases h; exact c_bylaw_idOf x0) (of_true hy4 hW)) .nil)) (At.keep (ts := [1, 16]) (ids := [1]) rfl rfl ?_)
 refine At.thenC ?_
 refine W.cond rfl (fun hb5 => ?_) (fun hb5 => ?_)
 · have H := of_true H hb5
   refine W.rg env [2] [] ?_
   refine W.ret ?_
   refine At.rthen ?_
   cases H
   exact At.ret env.ty rfl rfl (fun q hq => by cases hq) (.refl _) hval
 · have H := of_false H hb5
   refine W.skip ?_
   refine At.thenC ?_
   refine W.seq ?_
   refine W.rg env [1, 18, 19, 20] [1] ?_
   refine W.block ?_
   refine At.keep (ts := [1, 18, 19, 20]) (ids := [1]) rfl rfl ?_
   refine W.len (t := 18) rfl (fun (hn6 : p0.Streets.length ≤ maxLen) => ?_)
   refine W.rangeGo H (fun i6 (s6 : Unit) => [(1, .lp 1 0), (18, roL 5 enc_Street p0.Streets), (19, .int .i64 (((p0.Streets.length : Nat) : Int))), (20, .int .i64 ((i6 : Int)))]) (fun i6 (s6 : Unit) => [(1, .cells [roL 11 enc_Version p0.Versions, roL 5 enc_Street p0.Streets])]) (.cons .q (.cons .q (.cons .qi (.cons .qi .nil)))) (.cons .q .nil) (fun k6 i6 s6 hle6 H1 H2 K0 hK6 => ?_)
   refine W.rg env [1, 18, 19, 20, 21] [1] ?_
   refine W.seq ?_
   refine W.cond rfl (fun hb7 => ?_) (fun hb7 => ?_)
   · have hi6 : i6 < p0.Streets.length := by have := of_decide_eq_true hb7; omega
     have H := H1 hi6
     refine W.skip ?_
     refine At.thenC ?_
     refine W.seq ?_
     refine W.block ?_
     refine W.sr env [] [] [1, 3, 4, 18, 19, 20] [1, 4] rfl rfl rfl (.cons (⟨by omega, by omega⟩ : 0 ≤ (i6 : Int) ∧ (i6 : Int) < ((p0.Streets.length : Nat) : Int)) .nil) .nil ?_
     refine W.seq ?_
     obtain ⟨hc8, H⟩ := of_must H
     refine W.region env [] [] rfl rfl rfl (.cons hc8 .nil) .nil (At.keep (ts := [1, 4, 18, 19, 20, 28, 29, 30]) (ids := [1, 4]) rfl rfl ?_)
     refine At.slot (t := 28) (v := roL 5 enc_Street (p0.Streets.take i6)) (Sim.seg (Seg.take enc_Street p0.Streets i6 (by omega))) ?_
     refine At.thenC ?_
     refine W.block ?_
     refine At.keep (ts := [1, 4, 18, 19, 20, 28, 29, 30]) (ids := [1, 4]) rfl rfl ?_
     refine W.len (t := 28) rfl (fun (hn9 : (p0.Streets.take i6).length ≤ maxLen) => ?_)
     refine W.rangeGo H (fun i9 (s9 : Unit) => [(1, .lp 1 0), (4, .lp 4 0), (18, roL 5 enc_Street p0.Streets), (19, .int .i64 (((p0.Streets.length : Nat) : Int))), (20, .int .i64 ((i6 : Int))), (28, roL 5 enc_Street (p0.Streets.take i6)), (29, .int .i64 ((((p0.Streets.take i6).length : Nat) : Int))), (30, .int .i64 ((i9 : Int)))]) (fun i9 (s9 : Unit) => [(1, .cells [roL 11 enc_Version p0.Versions, roL 5 enc_Street p0.Streets]), (4, .cells [.int .i64 ((p0.Streets.getD i6 default).Id), .int .i64 ((p0.Streets.getD i6 default).Class), .int .i64 ((p0.Streets.getD i6 default).District), .int .i64 ((p0.Streets.getD i6 default).First), .int .i64 ((p0.Streets.getD i6 default).Many)])]) (.cons .q (.cons .q (.cons .q (.cons .qi (.cons .qi (.cons .q (.cons .qi (.cons .qi .nil)))))))) (.cons .q (.cons .q .nil)) (fun k9 i9 s9 hle9 H1 H2 K0 hK9 => ?_)
     refine W.rg env [1, 4, 18, 19, 20, 28, 29, 30, 31] [1, 4] ?_
     refine W.seq ?_
     refine W.cond rfl (fun hb10 => ?_) (fun hb10 => ?_)
     · have hi9 : i9 < (p0.Streets.take i6).length := by have := of_decide_eq_true hb10; omega
       have H := H1 hi9
       refine W.skip ?_
       refine At.thenC ?_
       refine W.seq ?_
       refine W.block ?_
       refine W.sr env [] [] [1, 4, 6, 18, 19, 20, 28, 29, 30] [1, 4, 6] rfl rfl rfl (.cons (⟨by omega, by omega⟩ : 0 ≤ (i9 : Int) ∧ (i9 : Int) < (((p0.Streets.take i6).length : Nat) : Int)) .nil) .nil ?_
       refine W.seq ?_
       obtain ⟨y11, hy12, H⟩ := of_bindO H
       obtain ⟨y13, hy14, H⟩ := of_bindO H
       refine W.region env [] [⟨.bool (y11), [], 0, []⟩, ⟨.bool (y13), [], 0, []⟩] rfl rfl rfl (.cons (fun h => h) (.cons (fun h => h) (.cons (fun h => h) (.cons (fun h => by rw [h]; rfl) .nil)))) (.free (c_bylaw_has (p0.Streets.getD i6 default) (((p0.Streets.take i6).getD i9 default).First) hy12) (.on (fun hW => c_bylaw_has ((p0.Streets.take i6).getD i9 default) ((p0.Streets.getD i6 default).First) (of_true hy14 hW)) .nil)) (At.keep (ts := [1, 4, 18, 19, 20, 28, 29, 30, 43]) (ids := [1, 4]) rfl rfl ?_)
       refine At.thenC ?_
       refine W.cond rfl (fun hb15 => ?_) (fun hb15 => ?_)
       · have H := of_true H hb15
         refine W.rg env [2] [] ?_
         refine W.ret ?_
         refine At.rinb ?_
         refine At.rthen ?_
         refine At.rthen ?_
         refine At.rinb ?_
         refine At.rinb ?_
         refine At.rthen ?_
         refine At.rthen ?_
         refine At.rinb ?_
         refine At.rthen ?_
         cases H
         exact At.ret env.ty rfl rfl (fun q hq => by cases hq) (.refl _) hval
       · have H := of_false H hb15
         refine W.skip ?_
         refine At.inb ?_
         refine At.thenC ?_
         refine W.region env [] [] rfl rfl rfl (.cons (by unfold inI; have := hn9; (try unfold maxLen at this); omega) .nil) .nil (At.keep (ts := [1, 4, 18, 19, 20, 28, 29, 30]) (ids := [1, 4]) rfl rfl ?_)
         refine At.thenK (At.keep (ts := [1, 4, 18, 19, 20, 28, 29, 30]) (ids := [1, 4]) rfl rfl ?_)
         exact At.conv (.cons .q (.cons .q (.cons .q (.cons .qi (.cons .qi (.cons .q (.cons .qi (.cons .qi .nil)))))))) (.cons .q (.cons .q .nil)) (hK9 hi9 () H)
     · have H := H2 (by have := of_decide_eq_false hb10; omega)
       refine W.exit ?_
       refine At.xthen ?_
       refine At.xthen ?_
       refine At.xhere ?_
       refine At.inb ?_
       refine At.thenC ?_
       refine W.region env [] [] rfl rfl rfl (.cons (by unfold inI; have := hn6; (try unfold maxLen at this); omega) .nil) .nil (At.keep (ts := [1, 18, 19, 20]) (ids := [1]) rfl rfl ?_)
       refine At.thenK (At.keep (ts := [1, 18, 19, 20]) (ids := [1]) rfl rfl ?_)
       exact At.conv (.cons .q (.cons .q (.cons .qi (.cons .qi .nil)))) (.cons .q .nil) (hK6 hi6 () H)
   · have H := H2 (by have := of_decide_eq_false hb7; omega)
     refine W.exit ?_
     refine At.xthen ?_
     refine At.xthen ?_
     refine At.xhere ?_
     refine At.thenC ?_
     refine W.rg env [2] [] ?_
     refine W.ret ?_
     cases H
     exact At.ret env.ty rfl rfl (fun q hq => by cases hq) (.refl _) hval
theorem c_bylaw_CheckNight (p0 : Night) : Ctr Try.prog 50 [.agg [.int .i64 (p0.No), .int .i64 (p0.Set.Lo), .int .i64 (p0.Set.Hi), .int .i64 (p0.Rise.Lo), .int .i64 (p0.Rise.Hi), .int .i64 (p0.Light.Lo), .int .i64 (p0.Light.Hi), .int .i64 (p0.Fog)]] (.int .i64 ((bylaw_CheckNight p0))) := by
 obtain ⟨r, H⟩ : ∃ r, bylaw_CheckNight p0 = r := ⟨_, rfl⟩
 rw [H]
 unfold bylaw_CheckNight at H
 refine Ctr.of_body (N := 40) Try.func50 (by kernel_rfl) (c := _) rfl Try.ntmps50 rfl (fun w0 h0 hval => ?_)
 refine W.rg env [1] [1] ?_
 refine W.seq ?_
 refine W.sr env [] [⟨.bool ((bylaw_isNight p0.No)), [], 0, []⟩, ⟨.bool ((bylaw_isRange p0.Set 1439)), [], 0, []⟩, ⟨.bool ((bylaw_isRange p0.Rise 1439)), [], 0, []⟩, ⟨.bool ((bylaw_isRange p0.Light 1000)), [], 0, []⟩, ⟨.bool ((bylaw_in p0.Fog 0 2)), [], 0, []⟩] [39] [] rfl rfl rfl (.cons (fun h => h) (.cons (fun h => h) (.cons (fun h => h) (.cons (fun h => by rw [h]; rfl) (.cons (fun h => h) (.cons (fun h => h) (.cons (fun h => h) (.cons (fun h => by rw [h]; rfl) (.cons (fun h => h) (.cons (fun h => h) (.cons (fun h => h) (.cons (fun h => h) (.cons (fun h => h) (.cons (fun h => h) (.cons (fun h => by rw [h]; rfl) (.cons (fun h => h) (.cons (fun h => h) (.cons (fun h => h) (.cons (fun h => by rw [h]; rfl) (.cons (fun h => h) (.cons (fun h => h) (.cons (fun h => h) (.cons (fun h => by rw [h]; rfl) .nil))))))))))))))))))))))) (.free (c_bylaw_isNight p0.No) (.on (fun hW => c_bylaw_isRange p0.Set 1439) (.on (fun hW => c_bylaw_isRange p0.Rise 1439) (.on (fun hW => c_bylaw_isRange p0.Light 1000) (.on (fun hW => c_bylaw_in p0.Fog 0 2) .nil))))) ?_
 refine W.cond rfl (fun hb1 => ?_) (fun hb1 => ?_)
 · have H := of_true H hb1
   refine W.rg env [2] [] ?_
   refine W.ret ?_
   refine At.rthen ?_
   cases H
   exact At.ret env.ty rfl rfl (fun q hq => by cases hq) (.refl _) hval
 · have H := of_false H hb1
   refine W.skip ?_
   refine At.thenC ?_
   refine W.rg env [2] [] ?_
   refine W.ret ?_
   cases H
   exact At.ret env.ty rfl rfl (fun q hq => by cases hq) (.refl _) hval
theorem c_slices_IndexFunc_Street (p0 : (List Street)) (p1 : Street → Option Bool) (p1_g : Nat) (p1_a p1_b : List AV) (p1_h : ∀ x0 r, p1 x0 = some r → Ctr Try.prog p1_g (p1_a ++ ([.agg [.int .i64 (x0.Id), .int .i64 (x0.Class), .int .i64 (x0.District), .int .i64 (x0.First), .int .i64 (x0.Many)]] ++ p1_b)) (.bool (r))) {r : Int} (H : slices_IndexFunc_Street p0 p1 = some r) : Ctr Try.prog 77 [roL 5 enc_Street p0, .clo (.func p1_g) p1_a p1_b] (.int .i64 (r)) := by
 unfold slices_IndexFunc_Street at H
 refine Ctr.of_body (N := 19) Try.func77 (by kernel_rfl) (c := _) rfl Try.ntmps77 rfl (fun w0 h0 hval => ?_)
 refine W.rg env [0, 1] [] ?_
 refine W.seq ?_
 refine W.rg env [0, 1, 7, 8] [] ?_
 refine W.block ?_
 refine At.keep (ts := [0, 1, 7, 8]) (ids := []) rfl rfl ?_
 refine W.len (t := 0) rfl (fun (hn1 : p0.length ≤ maxLen) => ?_)
 refine W.rangeGo H (fun i1 (s1 : Unit) => [(0, roL 5 enc_Street p0), (1, .clo (.func p1_g) p1_a p1_b), (7, .int .i64 (((p0.length : Nat) : Int))), (8, .int .i64 ((i1 : Int)))]) (fun i1 (s1 : Unit) => []) (.cons .q (.cons .q (.cons .qi (.cons .qi .nil)))) .nil (fun k1 i1 s1 hle1 H1 H2 K0 hK1 => ?_)
 refine W.rg env [0, 1, 7, 8, 9] [] ?_
 refine W.seq ?_
 refine W.cond rfl (fun hb2 => ?_) (fun hb2 => ?_)
 · have hi1 : i1 < p0.length := by have := of_decide_eq_true hb2; omega
   have H := H1 hi1
   refine W.skip ?_
   refine At.thenC ?_
   refine W.seq ?_
   refine W.block ?_
   refine W.rg env [0, 1, 5, 7, 8] [] ?_
   refine W.seq ?_
   obtain ⟨y3, hy4, H⟩ := of_bindO H
   refine W.region env [] [⟨.bool (y3), [], 0, []⟩] rfl rfl rfl (.cons (⟨by omega, by omega⟩ : 0 ≤ (i1 : Int) ∧ (i1 : Int) < ((p0.length : Nat) : Int)) .nil) (.free (p1_h (p0.getD i1 default) _ hy4) .nil) (At.keep (ts := [0, 1, 5, 7, 8, 16]) (ids := []) rfl rfl ?_)
   refine At.thenC ?_
   refine W.cond rfl (fun hb5 => ?_) (fun hb5 => ?_)
   · have H := of_true H hb5
     refine W.rg env [4] [] ?_
     refine W.ret ?_
     refine At.rinb ?_
     refine At.rthen ?_
     refine At.rthen ?_
     refine At.rinb ?_
     refine At.rthen ?_
     cases H
     exact At.ret env.ty rfl rfl (fun q hq => by cases hq) (.refl _) hval
   · have H := of_false H hb5
     refine W.skip ?_
     refine At.inb ?_
     refine At.thenC ?_
     refine W.region env [] [] rfl rfl rfl (.cons (by unfold inI; have := hn1; (try unfold maxLen at this); omega) .nil) .nil (At.keep (ts := [0, 1, 7, 8]) (ids := []) rfl rfl ?_)
     refine At.thenK (At.keep (ts := [0, 1, 7, 8]) (ids := []) rfl rfl ?_)
     exact At.conv (.cons .q (.cons .q (.cons .qi (.cons .qi .nil)))) .nil (hK1 hi1 () H)
 · have H := H2 (by have := of_decide_eq_false hb2; omega)
   refine W.exit ?_
   refine At.xthen ?_
   refine At.xthen ?_
   refine At.xhere ?_
   refine At.thenC ?_
   refine W.rg env [4] [] ?_
   refine W.ret ?_
   cases H
   exact At.ret env.ty rfl rfl (fun q hq => by cases hq) (.refl _) hval
theorem c_bylaw_streetOf_1 (p0 : Street) (c0 : Int) {r : Bool} (H : bylaw_streetOf_1 p0 c0 = some r) : Ctr Try.prog 78 [.agg [.int .i64 (p0.Id), .int .i64 (p0.Class), .int .i64 (p0.District), .int .i64 (p0.First), .int .i64 (p0.Many)], .rp [.int .i64 (c0)]] (.bool (r)) := by
 unfold bylaw_streetOf_1 at H
 refine Ctr.of_body (N := 7) Try.func78 (by kernel_rfl) (c := _) rfl Try.ntmps78 rfl (fun w0 h0 hval => ?_)
 refine W.rg env [1, 2] [2] ?_
 refine W.seq ?_
 obtain ⟨y1, hy2, H⟩ := of_bindO H
 refine W.region env [] [⟨.bool (y1), [], 0, []⟩] rfl rfl rfl .nil (.free (c_bylaw_has p0 c0 hy2) .nil) (At.keep (ts := [3]) (ids := []) rfl rfl ?_)
 refine At.thenC ?_
 refine W.ret ?_
 cases H
 exact At.ret env.ty rfl rfl (fun q hq => by cases hq) (.refl _) hval
theorem c_bylaw_streetOf (p0 : Bylaw) (p1 : Int) {r : (Street × Int)} (H : bylaw_streetOf p0 p1 = some r) : Ctr Try.prog 59 [.agg [roL 11 enc_Version p0.Versions, roL 5 enc_Street p0.Streets], .int .i64 (p1)] (.tup [.agg [.int .i64 (r.1.Id), .int .i64 (r.1.Class), .int .i64 (r.1.District), .int .i64 (r.1.First), .int .i64 (r.1.Many)], .int .i64 (r.2)]) := by
 unfold bylaw_streetOf at H
 refine Ctr.of_body (N := 19) Try.func59 (by kernel_rfl) (c := _) rfl Try.ntmps59 rfl (fun w0 h0 hval => ?_)
 refine W.rg env [2, 3, 4] [2, 3, 4] ?_
 refine W.seq ?_
 obtain ⟨y1, hy2, H⟩ := of_bindO H
 refine W.region env [] [⟨.int .i64 (y1), [], 0, []⟩] rfl rfl rfl .nil (.free (c_slices_IndexFunc_Street p0.Streets (fun x0 => bylaw_streetOf_1 x0 p1) 78 [] ([.rp [.int .i64 (p1)]]) (fun x0 r h => c_bylaw_streetOf_1 x0 p1 h) hy2) .nil) (At.keep (ts := [2, 4, 6]) (ids := [2, 4]) rfl rfl ?_)
 refine At.thenC ?_
 refine W.seq ?_
 refine W.rg env [2, 4, 6, 12] [2, 4] ?_
 refine W.cond rfl (fun hb3 => ?_) (fun hb3 => ?_)
 · have H := of_true H hb3
   refine W.rg env [4, 5] [4] ?_
   refine W.ret ?_
   refine At.rthen ?_
   cases H
   exact At.ret env.ty rfl rfl (fun q hq => by cases hq) (.refl _) hval
 · have H := of_false H hb3
   refine W.skip ?_
   refine At.thenC ?_
   obtain ⟨hc4, H⟩ := of_must H
   refine W.sr env [] [] [4, 5] [4] rfl rfl rfl (.cons hc4 .nil) .nil ?_
   refine W.ret ?_
   cases H
   exact At.ret env.ty rfl rfl (fun q hq => by cases hq) (.refl _) hval
theorem c_bylaw_inForce (p0 : Bylaw) (p1 : Int) (p2 : Int) (p3 : Int) {r : (Version × Int)} (H : bylaw_inForce p0 p1 p2 p3 = some r) : Ctr Try.prog 60 [.agg [roL 11 enc_Version p0.Versions, roL 5 enc_Street p0.Streets], .int .i64 (p1), .int .i64 (p2), .int .i64 (p3)] (.tup [.agg [.int .i64 (r.1.Source), .int .i64 (r.1.Class), .int .i64 (r.1.From), .int .i64 (r.1.On.Lo), .int .i64 (r.1.On.Hi), .int .i64 (r.1.Off.Lo), .int .i64 (r.1.Off.Hi), .int .i64 (r.1.Moon), .int .i64 (r.1.Fog), .int .i64 (r.1.Known), .int .i64 (r.1.Until)], .int .i64 (r.2)]) := by
 unfold bylaw_inForce at H
 refine Ctr.of_body (N := 61) Try.func60 (by kernel_rfl) (c := _) rfl Try.ntmps60 rfl (fun w0 h0 hval => ?_)
 refine W.rg env [1, 2, 3, 4, 8] [4, 8] ?_
 refine W.rg env [1, 2, 3, 4, 8, 10] [4, 8, 10] ?_
 refine W.seq ?_
 refine W.rg env [1, 2, 3, 8, 10, 14, 15, 16] [8, 10] ?_
 refine W.block ?_
 refine At.keep (ts := [1, 2, 3, 8, 10, 14, 15, 16]) (ids := [8, 10]) rfl rfl ?_
 refine W.len (t := 14) rfl (fun (hn1 : p0.Versions.length ≤ maxLen) => ?_)
 refine W.rangeGo H (fun i1 (s1 : Version) => [(1, .int .i64 (p1)), (2, .int .i64 (p2)), (3, .int .i64 (p3)), (8, .lp 8 0), (10, .lp 10 0), (14, roL 11 enc_Version p0.Versions), (15, .int .i64 (((p0.Versions.length : Nat) : Int))), (16, .int .i64 ((i1 : Int)))]) (fun i1 (s1 : Version) => [(8, .cells [.int .i64 (0), .int .i64 (0), .int .i64 (0), .int .i64 (0), .int .i64 (0), .int .i64 (0), .int .i64 (0), .int .i64 (0), .int .i64 (0), .int .i64 (0), .int .i64 (0)]), (10, .cells [.int .i64 (s1.Source), .int .i64 (s1.Class), .int .i64 (s1.From), .int .i64 (s1.On.Lo), .int .i64 (s1.On.Hi), .int .i64 (s1.Off.Lo), .int .i64 (s1.Off.Hi), .int .i64 (s1.Moon), .int .i64 (s1.Fog), .int .i64 (s1.Known), .int .i64 (s1.Until)])]) (.cons .qi (.cons .qi (.cons .qi (.cons .q (.cons .q (.cons .q (.cons .qi (.cons .qi .nil)))))))) (.cons .q (.cons .q .nil)) (fun k1 i1 s1 hle1 H1 H2 K0 hK1 => ?_)
 refine W.rg env [1, 2, 3, 8, 10, 14, 15, 16, 17] [8, 10] ?_
 refine W.seq ?_
 refine W.cond rfl (fun hb2 => ?_) (fun hb2 => ?_)
 · have hi1 : i1 < p0.Versions.length := by have := of_decide_eq_true hb2; omega
   have H := H1 hi1
   refine W.skip ?_
   refine At.thenC ?_
   refine W.seq ?_
   refine W.block ?_
   refine W.sr env [] [] [1, 2, 3, 8, 10, 12, 14, 15, 16] [8, 10, 12] rfl rfl rfl (.cons (⟨by omega, by omega⟩ : 0 ≤ (i1 : Int) ∧ (i1 : Int) < ((p0.Versions.length : Nat) : Int)) .nil) .nil ?_
   refine W.sr env [] [] [1, 2, 3, 8, 10, 12, 14, 15, 16, 53] [8, 10, 12] rfl rfl rfl (.cons (fun h => h) (.cons (fun h => h) (.cons (fun h => h) (.cons (fun h => h) (.cons (fun h => h) (.cons (fun h => h) (.cons (fun h => h) (.cons (fun h => h) (.cons (fun h => h) (.cons (fun h => h) (.cons (fun h => h) (.cons (fun h => h) (.cons (fun h => h) (.cons (fun h => h) (.cons (fun h => h) (.cons (fun hW h => by revert hW h; first | (simp +contextual; done) | grind) (.cons (fun h => h) (.cons (fun h => h) (.cons (fun h => h) (.cons (fun h => h) (.cons (fun h => h) (.cons (fun h => h) .nil)))))))))))))))))))))) .nil ?_
   refine W.cond rfl (fun hb3 => ?_) (fun hb3 => ?_)
   · have H := of_true H hb3
     refine W.region env [] [] rfl rfl rfl .nil .nil (At.keep (ts := [1, 2, 3, 8, 10, 14, 15, 16]) (ids := [8, 10]) rfl rfl ?_)
     refine At.inb ?_
     refine At.thenC ?_
     refine W.region env [] [] rfl rfl rfl (.cons (by unfold inI; have := hn1; (try unfold maxLen at this); omega) .nil) .nil (At.keep (ts := [1, 2, 3, 8, 10, 14, 15, 16]) (ids := [8, 10]) rfl rfl ?_)
     refine At.thenK (At.keep (ts := [1, 2, 3, 8, 10, 14, 15, 16]) (ids := [8, 10]) rfl rfl ?_)
     exact At.conv (.cons .qi (.cons .qi (.cons .qi (.cons .q (.cons .q (.cons .q (.cons .qi (.cons .qi .nil)))))))) (.cons .q (.cons .q .nil)) (hK1 hi1 (p0.Versions.getD i1 default) H)
   · have H := of_false H hb3
     refine W.skip ?_
     refine At.inb ?_
     refine At.thenC ?_
     refine W.region env [] [] rfl rfl rfl (.cons (by unfold inI; have := hn1; (try unfold maxLen at this); omega) .nil) .nil (At.keep (ts := [1, 2, 3, 8, 10, 14, 15, 16]) (ids := [8, 10]) rfl rfl ?_)
     refine At.thenK (At.keep (ts := [1, 2, 3, 8, 10, 14, 15, 16]) (ids := [8, 10]) rfl rfl ?_)
     exact At.conv (.cons .qi (.cons .qi (.cons .qi (.cons .q (.cons .q (.cons .q (.cons .qi (.cons .qi .nil)))))))) (.cons .q (.cons .q .nil)) (hK1 hi1 s1 H)
 · have H := H2 (by have := of_decide_eq_false hb2; omega)
   refine W.exit ?_
   refine At.xthen ?_
   refine At.xthen ?_
   refine At.xhere ?_
   refine At.thenC ?_
   refine W.seq ?_
   refine W.rg env [8, 10, 58] [8, 10] ?_
   refine W.cond rfl (fun hb4 => ?_) (fun hb4 => ?_)
   · have H := of_true H hb4
     refine W.rg env [8, 9] [8] ?_
     refine W.ret ?_
     refine At.rthen ?_
     cases H
     exact At.ret env.ty rfl rfl (fun q hq => by cases hq) (.refl _) hval
   · have H := of_false H hb4
     refine W.skip ?_
     refine At.thenC ?_
     refine W.rg env [8, 9] [8] ?_
     refine W.ret ?_
     cases H
     exact At.ret env.ty rfl rfl (fun q hq => by cases hq) (.refl _) hval
theorem c_bylaw_known (p0 : Bylaw) (p1 : Int) (p2 : Night) (p3 : Int) {r : (bylaw_window × Int)} (H : bylaw_known p0 p1 p2 p3 = some r) : Ctr Try.prog 33 [.agg [roL 11 enc_Version p0.Versions, roL 5 enc_Street p0.Streets], .int .i64 (p1), .agg [.int .i64 (p2.No), .int .i64 (p2.Set.Lo), .int .i64 (p2.Set.Hi), .int .i64 (p2.Rise.Lo), .int .i64 (p2.Rise.Hi), .int .i64 (p2.Light.Lo), .int .i64 (p2.Light.Hi), .int .i64 (p2.Fog)], .int .i64 (p3)] (.tup [.agg [.int .i64 (r.1.v.Source), .int .i64 (r.1.v.Class), .int .i64 (r.1.v.From), .int .i64 (r.1.v.On.Lo), .int .i64 (r.1.v.On.Hi), .int .i64 (r.1.v.Off.Lo), .int .i64 (r.1.v.Off.Hi), .int .i64 (r.1.v.Moon), .int .i64 (r.1.v.Fog), .int .i64 (r.1.v.Known), .int .i64 (r.1.v.Until), .int .i64 (r.1.n.No), .int .i64 (r.1.n.Set.Lo), .int .i64 (r.1.n.Set.Hi), .int .i64 (r.1.n.Rise.Lo), .int .i64 (r.1.n.Rise.Hi), .int .i64 (r.1.n.Light.Lo), .int .i64 (r.1.n.Light.Hi), .int .i64 (r.1.n.Fog)], .int .i64 (r.2)]) := by
 unfold bylaw_known at H
 refine Ctr.of_body (N := 37) Try.func33 (by kernel_rfl) (c := _) rfl Try.ntmps33 rfl (fun w0 h0 hval => ?_)
 refine W.rg env [1, 3, 4, 6, 8] [4, 6, 8] ?_
 refine W.seq ?_
 obtain ⟨y1, hy2, H⟩ := of_bindO H
 refine W.region env [] [⟨.tup [.agg [.int .i64 (y1.1.Id), .int .i64 (y1.1.Class), .int .i64 (y1.1.District), .int .i64 (y1.1.First), .int .i64 (y1.1.Many)], .int .i64 (y1.2)], [], 0, []⟩] rfl rfl rfl .nil (.free (c_bylaw_streetOf p0 p1 hy2) .nil) (At.keep (ts := [3, 4, 6, 8, 10, 11]) (ids := [4, 6, 8, 10]) rfl rfl ?_)
 refine At.thenC ?_
 refine W.seq ?_
 refine W.rg env [3, 4, 6, 8, 10, 11, 20] [4, 6, 8, 10] ?_
 refine W.cond rfl (fun hb3 => ?_) (fun hb3 => ?_)
 · have H := of_true H hb3
   refine W.rg env [8, 9] [8] ?_
   refine W.ret ?_
   refine At.rthen ?_
   cases H
   exact At.ret env.ty rfl rfl (fun q hq => by cases hq) (.refl _) hval
 · have H := of_false H hb3
   refine W.skip ?_
   refine At.thenC ?_
   refine W.seq ?_
   obtain ⟨y4, hy5, H⟩ := of_bindO H
   refine W.region env [] [⟨.tup [.agg [.int .i64 (y4.1.Source), .int .i64 (y4.1.Class), .int .i64 (y4.1.From), .int .i64 (y4.1.On.Lo), .int .i64 (y4.1.On.Hi), .int .i64 (y4.1.Off.Lo), .int .i64 (y4.1.Off.Hi), .int .i64 (y4.1.Moon), .int .i64 (y4.1.Fog), .int .i64 (y4.1.Known), .int .i64 (y4.1.Until)], .int .i64 (y4.2)], [], 0, []⟩] rfl rfl rfl .nil (.free (c_bylaw_inForce p0 y1.1.Class p2.No p3 hy5) .nil) (At.keep (ts := [6, 8, 11, 12]) (ids := [6, 8, 12]) rfl rfl ?_)
   refine At.thenC ?_
   refine W.rg env [8, 9] [8] ?_
   refine W.ret ?_
   cases H
   exact At.ret env.ty rfl rfl (fun q hq => by cases hq) (.refl _) hval
theorem c_bylaw_look (p0 : Bylaw) (p1 : Int) (p2 : Night) (p3 : Int) {r : (bylaw_window × Int)} (H : bylaw_look p0 p1 p2 p3 = some r) : Ctr Try.prog 27 [.agg [roL 11 enc_Version p0.Versions, roL 5 enc_Street p0.Streets], .int .i64 (p1), .agg [.int .i64 (p2.No), .int .i64 (p2.Set.Lo), .int .i64 (p2.Set.Hi), .int .i64 (p2.Rise.Lo), .int .i64 (p2.Rise.Hi), .int .i64 (p2.Light.Lo), .int .i64 (p2.Light.Hi), .int .i64 (p2.Fog)], .int .i64 (p3)] (.tup [.agg [.int .i64 (r.1.v.Source), .int .i64 (r.1.v.Class), .int .i64 (r.1.v.From), .int .i64 (r.1.v.On.Lo), .int .i64 (r.1.v.On.Hi), .int .i64 (r.1.v.Off.Lo), .int .i64 (r.1.v.Off.Hi), .int .i64 (r.1.v.Moon), .int .i64 (r.1.v.Fog), .int .i64 (r.1.v.Known), .int .i64 (r.1.v.Until), .int .i64 (r.1.n.No), .int .i64 (r.1.n.Set.Lo), .int .i64 (r.1.n.Set.Hi), .int .i64 (r.1.n.Rise.Lo), .int .i64 (r.1.n.Rise.Hi), .int .i64 (r.1.n.Light.Lo), .int .i64 (r.1.n.Light.Hi), .int .i64 (r.1.n.Fog)], .int .i64 (r.2)]) := by
 unfold bylaw_look at H
 refine Ctr.of_body (N := 35) Try.func27 (by kernel_rfl) (c := _) rfl Try.ntmps27 rfl (fun w0 h0 hval => ?_)
 refine W.rg env [1, 3, 4, 6, 8] [4, 6, 8] ?_
 refine W.seq ?_
 refine W.seq ?_
 obtain ⟨y1, hy2, H⟩ := of_bindO H
 refine W.region env [] [⟨.int .i64 (y1), [], 0, []⟩] rfl rfl rfl .nil (.free (c_bylaw_Check p0 hy2) .nil) (At.keep (ts := [1, 3, 4, 6, 8, 10]) (ids := [4, 6, 8]) rfl rfl ?_)
 refine At.thenC ?_
 refine W.rg env [1, 3, 4, 6, 8, 10, 15] [4, 6, 8] ?_
 refine W.cond rfl (fun hb3 => ?_) (fun hb3 => ?_)
 · have H := of_true H hb3
   refine W.rg env [8, 9] [8] ?_
   refine W.ret ?_
   refine At.rthen ?_
   cases H
   exact At.ret env.ty rfl rfl (fun q hq => by cases hq) (.refl _) hval
 · have H := of_false H hb3
   refine W.skip ?_
   refine At.thenC ?_
   refine W.seq ?_
   refine W.sr env [] [⟨.int .i64 ((bylaw_CheckNight p2)), [], 0, []⟩] [1, 3, 4, 6, 8, 11] [4, 6, 8] rfl rfl rfl .nil (.free (c_bylaw_CheckNight p2) .nil) ?_
   refine W.rg env [1, 3, 4, 6, 8, 11, 21] [4, 6, 8] ?_
   refine W.cond rfl (fun hb4 => ?_) (fun hb4 => ?_)
   · have H := of_true H hb4
     refine W.rg env [8, 9] [8] ?_
     refine W.ret ?_
     refine At.rthen ?_
     cases H
     exact At.ret env.ty rfl rfl (fun q hq => by cases hq) (.refl _) hval
   · have H := of_false H hb4
     refine W.skip ?_
     refine At.thenC ?_
     refine W.seq ?_
     refine W.sr env [] [⟨.bool ((bylaw_isNight p3)), [], 0, []⟩] [1, 3, 4, 6, 8, 26] [4, 6, 8] rfl rfl rfl .nil (.free (c_bylaw_isNight p3) .nil) ?_
     refine W.cond rfl (fun hb5 => ?_) (fun hb5 => ?_)
     · have H := of_true H hb5
       refine W.rg env [8, 9] [8] ?_
       refine W.ret ?_
       refine At.rthen ?_
       cases H
       exact At.ret env.ty rfl rfl (fun q hq => by cases hq) (.refl _) hval
     · have H := of_false H hb5
       refine W.skip ?_
       refine At.thenC ?_
       refine W.seq ?_
       obtain ⟨y6, hy7, H⟩ := of_bindO H
       refine W.region env [] [⟨.tup [.agg [.int .i64 (y6.1.v.Source), .int .i64 (y6.1.v.Class), .int .i64 (y6.1.v.From), .int .i64 (y6.1.v.On.Lo), .int .i64 (y6.1.v.On.Hi), .int .i64 (y6.1.v.Off.Lo), .int .i64 (y6.1.v.Off.Hi), .int .i64 (y6.1.v.Moon), .int .i64 (y6.1.v.Fog), .int .i64 (y6.1.v.Known), .int .i64 (y6.1.v.Until), .int .i64 (y6.1.n.No), .int .i64 (y6.1.n.Set.Lo), .int .i64 (y6.1.n.Set.Hi), .int .i64 (y6.1.n.Rise.Lo), .int .i64 (y6.1.n.Rise.Hi), .int .i64 (y6.1.n.Light.Lo), .int .i64 (y6.1.n.Light.Hi), .int .i64 (y6.1.n.Fog)], .int .i64 (y6.2)], [], 0, []⟩] rfl rfl rfl .nil (.free (c_bylaw_known p0 p1 p2 p3 hy7) .nil) (At.keep (ts := [8, 9]) (ids := [8]) rfl rfl ?_)
       refine At.thenC ?_
       refine W.ret ?_
       cases H
       exact At.ret env.ty rfl rfl (fun q hq => by cases hq) (.refl _) hval
theorem c_bylaw_window__lit (p0 : bylaw_window) : Ctr Try.prog 28 [.agg [.int .i64 (p0.v.Source), .int .i64 (p0.v.Class), .int .i64 (p0.v.From), .int .i64 (p0.v.On.Lo), .int .i64 (p0.v.On.Hi), .int .i64 (p0.v.Off.Lo), .int .i64 (p0.v.Off.Hi), .int .i64 (p0.v.Moon), .int .i64 (p0.v.Fog), .int .i64 (p0.v.Known), .int .i64 (p0.v.Until), .int .i64 (p0.n.No), .int .i64 (p0.n.Set.Lo), .int .i64 (p0.n.Set.Hi), .int .i64 (p0.n.Rise.Lo), .int .i64 (p0.n.Rise.Hi), .int .i64 (p0.n.Light.Lo), .int .i64 (p0.n.Light.Hi), .int .i64 (p0.n.Fog)]] (.int .i64 ((bylaw_window__lit p0))) := by
 obtain ⟨r, H⟩ : ∃ r, bylaw_window__lit p0 = r := ⟨_, rfl⟩
 rw [H]
 unfold bylaw_window__lit at H
 refine Ctr.of_body (N := 35) Try.func28 (by kernel_rfl) (c := _) rfl Try.ntmps28 rfl (fun w0 h0 hval => ?_)
 refine W.rg env [1] [1] ?_
 refine W.rg env [1, 3] [1] ?_
 refine W.seq ?_
 refine W.block ?_
 refine W.sr env [] [] [1, 12] [1] rfl rfl rfl (.cons (fun h => by rw [h]; rfl) .nil) .nil ?_
 refine W.cond rfl (fun hb1 => ?_) (fun hb1 => ?_)
 · have H := of_true H hb1
   refine W.rg env [2] [] ?_
   refine W.ret ?_
   refine At.rinb ?_
   refine At.rthen ?_
   cases H
   exact At.ret env.ty rfl rfl (fun q hq => by cases hq) (.refl _) hval
 · have H := of_false H hb1
   refine W.sr env [] [] [20] [] rfl rfl rfl (.cons (fun h => h) (.cons (fun h => h) (.cons (fun h => h) (.cons (fun h => h) (.cons (fun h => h) (.cons (fun h => h) (.cons (fun h => h) (.cons (fun h => h) .nil)))))))) .nil ?_
   refine W.cond rfl (fun hb2 => ?_) (fun hb2 => ?_)
   · have H := of_true H hb2
     refine W.rg env [2] [] ?_
     refine W.ret ?_
     refine At.rinb ?_
     refine At.rthen ?_
     cases H
     exact At.ret env.ty rfl rfl (fun q hq => by cases hq) (.refl _) hval
   · have H := of_false H hb2
     refine W.skip ?_
     refine At.inb ?_
     refine At.thenC ?_
     refine W.rg env [2] [] ?_
     refine W.ret ?_
     cases H
     exact At.ret env.ty rfl rfl (fun q hq => by cases hq) (.refl _) hval
theorem c_bylaw_Lit (p0 : Bylaw) (p1 : Int) (p2 : Night) (p3 : Int) {r : (Int × Int)} (H : bylaw_Lit p0 p1 p2 p3 = some r) : Ctr Try.prog 12 [.agg [roL 11 enc_Version p0.Versions, roL 5 enc_Street p0.Streets], .int .i64 (p1), .agg [.int .i64 (p2.No), .int .i64 (p2.Set.Lo), .int .i64 (p2.Set.Hi), .int .i64 (p2.Rise.Lo), .int .i64 (p2.Rise.Hi), .int .i64 (p2.Light.Lo), .int .i64 (p2.Light.Hi), .int .i64 (p2.Fog)], .int .i64 (p3)] (.tup [.int .i64 (r.1), .int .i64 (r.2)]) := by
 unfold bylaw_Lit at H
 refine Ctr.of_body (N := 25) Try.func12 (by kernel_rfl) (c := _) rfl Try.ntmps12 rfl (fun w0 h0 hval => ?_)
 refine W.rg env [1, 3, 4, 6] [4, 6] ?_
 refine W.seq ?_
 obtain ⟨y1, hy2, H⟩ := of_bindO H
 refine W.region env [] [⟨.tup [.agg [.int .i64 (y1.1.v.Source), .int .i64 (y1.1.v.Class), .int .i64 (y1.1.v.From), .int .i64 (y1.1.v.On.Lo), .int .i64 (y1.1.v.On.Hi), .int .i64 (y1.1.v.Off.Lo), .int .i64 (y1.1.v.Off.Hi), .int .i64 (y1.1.v.Moon), .int .i64 (y1.1.v.Fog), .int .i64 (y1.1.v.Known), .int .i64 (y1.1.v.Until), .int .i64 (y1.1.n.No), .int .i64 (y1.1.n.Set.Lo), .int .i64 (y1.1.n.Set.Hi), .int .i64 (y1.1.n.Rise.Lo), .int .i64 (y1.1.n.Rise.Hi), .int .i64 (y1.1.n.Light.Lo), .int .i64 (y1.1.n.Light.Hi), .int .i64 (y1.1.n.Fog)], .int .i64 (y1.2)], [], 0, []⟩] rfl rfl rfl .nil (.free (c_bylaw_look p0 p1 p2 p3 hy2) .nil) (At.keep (ts := [10, 11]) (ids := [10]) rfl rfl ?_)
 refine At.thenC ?_
 refine W.seq ?_
 refine W.rg env [10, 11, 21] [10] ?_
 refine W.cond rfl (fun hb3 => ?_) (fun hb3 => ?_)
 · have H := of_true H hb3
   refine W.rg env [8, 9] [] ?_
   refine W.ret ?_
   refine At.rthen ?_
   cases H
   exact At.ret env.ty rfl rfl (fun q hq => by cases hq) (.refl _) hval
 · have H := of_false H hb3
   refine W.skip ?_
   refine At.thenC ?_
   refine W.sr env [] [⟨.int .i64 ((bylaw_window__lit y1.1)), [], 0, []⟩] [8, 9] [] rfl rfl rfl .nil (.free (c_bylaw_window__lit y1.1) .nil) ?_
   refine W.ret ?_
   cases H
   exact At.ret env.ty rfl rfl (fun q hq => by cases hq) (.refl _) hval
theorem c_gasoliertop_gleams (fuel : Nat) {r : Bool} (H : gasoliertop_gleams fuel = some r) : Ctr Try.prog 4 [] (.bool (r)) := by
 unfold gasoliertop_gleams at H
 refine Ctr.of_body (N := 86) Try.func4 (by kernel_rfl) (c := _) rfl Try.ntmps4 rfl (fun w0 h0 hval => ?_)
 refine W.rg env [] [] ?_
 refine W.seq ?_
 refine W.region env [] [] rfl rfl rfl .nil .nil (At.keep (ts := [1]) (ids := [1]) rfl rfl ?_)
 refine At.convM (.cons (y := .cells [.int .i64 (1), .int .i64 (5), .int .i64 (3), .int .i64 (0), roL 5 enc_Row ([(⟨0, (⟨(-20), 1⟩ : Frac), (⟨80, 1⟩ : Frac)⟩ : Row), (⟨1439, (⟨40, 1⟩ : Frac), (⟨300, 1⟩ : Frac)⟩ : Row)] : List Row), .int .i64 (2), .int .i64 (1), .int .i64 (400), .int .i64 (500)]) (BSim.cells (.cons (.refl _) (.cons (.refl _) (.cons (.refl _) (.cons (.refl _) (.cons (Sim.lit (f := enc_Row) ([(⟨0, (⟨(-20), 1⟩ : Frac), (⟨80, 1⟩ : Frac)⟩ : Row), (⟨1439, (⟨40, 1⟩ : Frac), (⟨300, 1⟩ : Frac)⟩ : Row)] : List Row) rfl rfl (fun _ => rfl)) (.cons (.refl _) (.cons (.refl _) (.cons (.refl _) (.cons (.refl _) .nil)))))))))) .nil) ?_
 refine At.thenC ?_
 refine W.seq ?_
 refine W.region env [] [] rfl rfl rfl .nil .nil (At.keep (ts := [2]) (ids := [2]) rfl rfl ?_)
 refine At.convM (.cons (y := .cells [roL 9 enc_Sheet ([(⟨1, 5, 3, 0, ([(⟨0, (⟨(-20), 1⟩ : Frac), (⟨80, 1⟩ : Frac)⟩ : Row), (⟨1439, (⟨40, 1⟩ : Frac), (⟨300, 1⟩ : Frac)⟩ : Row)] : List Row), (⟨2, 1⟩ : Frac), (⟨400, 500⟩ : Range)⟩ : Sheet)] : List Sheet), .nilS, .nilS]) (BSim.cells (.cons (Sim.lit (f := enc_Sheet) ([(⟨1, 5, 3, 0, ([(⟨0, (⟨(-20), 1⟩ : Frac), (⟨80, 1⟩ : Frac)⟩ : Row), (⟨1439, (⟨40, 1⟩ : Frac), (⟨300, 1⟩ : Frac)⟩ : Row)] : List Row), (⟨2, 1⟩ : Frac), (⟨400, 500⟩ : Range)⟩ : Sheet)] : List Sheet) rfl rfl (fun _ => rfl)) (.cons (.refl _) (.cons (.refl _) .nil)))) .nil) ?_
 refine At.thenC ?_
 refine W.seq ?_
 obtain ⟨y1, hy2, H⟩ := of_bindO H
 refine W.region env [] [⟨.tup [.int .i64 (y1.1), .int .i64 (y1.2)], [], 0, []⟩] rfl rfl rfl .nil (.free (Ctr.sim (.cons (Sim.aggL (.cons (.refl _) (.cons (Sim.nil _ _) (.cons (Sim.nil _ _) .nil)))) (.cons (.refl _) (.cons (.refl _) (.cons (.refl _) .nil)))) (c_moon_Above fuel (⟨([(⟨1, 5, 3, 0, ([(⟨0, (⟨(-20), 1⟩ : Frac), (⟨80, 1⟩ : Frac)⟩ : Row), (⟨1439, (⟨40, 1⟩ : Frac), (⟨300, 1⟩ : Frac)⟩ : Row)] : List Row), (⟨2, 1⟩ : Frac), (⟨400, 500⟩ : Range)⟩ : Sheet)] : List Sheet), [], []⟩ : Sky) 5 3 0 hy2)) .nil) (At.keep (ts := [2, 3, 4]) (ids := [2]) rfl rfl ?_)
 refine At.thenC ?_
 refine W.seq ?_
 obtain ⟨y3, hy4, H⟩ := of_bindO H
 refine W.region env [] [⟨.tup [.int .i64 (y3.1), .int .i64 (y3.2)], [], 0, []⟩] rfl rfl rfl .nil (.free (Ctr.sim (.cons (Sim.aggL (.cons (.refl _) (.cons (Sim.nil _ _) (.cons (Sim.nil _ _) .nil)))) (.cons (.refl _) (.cons (.refl _) (.cons (.refl _) .nil)))) (c_moon_Above fuel (⟨([(⟨1, 5, 3, 0, ([(⟨0, (⟨(-20), 1⟩ : Frac), (⟨80, 1⟩ : Frac)⟩ : Row), (⟨1439, (⟨40, 1⟩ : Frac), (⟨300, 1⟩ : Frac)⟩ : Row)] : List Row), (⟨2, 1⟩ : Frac), (⟨400, 500⟩ : Range)⟩ : Sheet)] : List Sheet), [], []⟩ : Sky) 5 3 1439 hy4)) .nil) (At.keep (ts := [2, 3, 4, 5, 6]) (ids := [2]) rfl rfl ?_)
 refine At.thenC ?_
 refine W.seq ?_
 obtain ⟨y5, hy6, H⟩ := of_bindO H
 refine W.region env [] [⟨.tup [.agg [.int .i64 (y5.1.Lo), .int .i64 (y5.1.Hi)], .int .i64 (y5.2)], [], 0, []⟩] rfl rfl rfl .nil (.free (Ctr.sim (.cons (Sim.aggL (.cons (.refl _) (.cons (Sim.nil _ _) (.cons (Sim.nil _ _) .nil)))) (.cons (.refl _) (.cons (.refl _) (.cons (.refl _) (.cons (.refl _) .nil))))) (c_moon_Whole fuel (⟨([(⟨1, 5, 3, 0, ([(⟨0, (⟨(-20), 1⟩ : Frac), (⟨80, 1⟩ : Frac)⟩ : Row), (⟨1439, (⟨40, 1⟩ : Frac), (⟨300, 1⟩ : Frac)⟩ : Row)] : List Row), (⟨2, 1⟩ : Frac), (⟨400, 500⟩ : Range)⟩ : Sheet)] : List Sheet), [], []⟩ : Sky) 5 3 1400 1439 hy6)) .nil) (At.keep (ts := [3, 4, 5, 6, 7, 8]) (ids := [7]) rfl rfl ?_)
 refine At.thenC ?_
 refine W.seq ?_
 refine W.region env [] [] rfl rfl rfl .nil .nil (At.keep (ts := [3, 4, 5, 6, 7, 8, 9]) (ids := [7, 9]) rfl rfl ?_)
 refine At.convM (.cons (.refl _) (.cons (y := .cells [roL 11 enc_Version ([(⟨1, 1, 0, (⟨0, 9⟩ : Range), (⟨0, 9⟩ : Range), 300, 0, 0, 0⟩ : Version)] : List Version), roL 5 enc_Street ([(⟨1, 1, 1, 1, 1⟩ : Street)] : List Street)]) (BSim.cells (.cons (Sim.lit (f := enc_Version) ([(⟨1, 1, 0, (⟨0, 9⟩ : Range), (⟨0, 9⟩ : Range), 300, 0, 0, 0⟩ : Version)] : List Version) rfl rfl (fun _ => rfl)) (.cons (Sim.lit (f := enc_Street) ([(⟨1, 1, 1, 1, 1⟩ : Street)] : List Street) rfl rfl (fun _ => rfl)) .nil))) .nil)) ?_
 refine At.thenC ?_
 refine W.seq ?_
 obtain ⟨y7, hy8, H⟩ := of_bindO H
 refine W.region env [] [⟨.tup [.int .i64 (y7.1), .int .i64 (y7.2)], [], 0, []⟩] rfl rfl rfl .nil (.free (c_bylaw_Lit (⟨([(⟨1, 1, 0, (⟨0, 9⟩ : Range), (⟨0, 9⟩ : Range), 300, 0, 0, 0⟩ : Version)] : List Version), ([(⟨1, 1, 1, 1, 1⟩ : Street)] : List Street)⟩ : Bylaw) 1 (⟨5, (⟨0, 0⟩ : Range), (⟨9, 9⟩ : Range), y5.1, 0⟩ : Night) 3 hy8) .nil) (At.keep (ts := [3, 4, 5, 6, 7, 8, 10, 11]) (ids := [7]) rfl rfl ?_)
 refine At.thenC ?_
 refine W.sr env [] [] [0] [] rfl rfl rfl (.cons (fun h => h) (.cons (fun h => h) (.cons (fun h => h) (.cons (fun h => h) (.cons (fun h => h) (.cons (fun h => h) (.cons (fun h => h) (.cons (fun h => h) (.cons (fun h => h) (.cons (fun h => h) (.cons (fun h => h) (.cons (fun h => h) (.cons (fun h => h) (.cons (fun h => h) (.cons (fun h => h) .nil))))))))))))))) .nil ?_
 refine W.ret ?_
 cases H
 exact At.ret env.ty rfl rfl (fun q hq => by cases hq) (.refl _) hval
theorem c_gasolierref01_Mod (p0 : Int) (p1 : Int) {r : Int} (H : gasolierref01_Mod p0 p1 = some r) : Ctr Try.prog 6 [.int .i64 (p0), .int .i64 (p1)] (.int .i64 (r)) := by
 unfold gasolierref01_Mod at H
 refine Ctr.of_body (N := 12) Try.func6 (by kernel_rfl) (c := _) rfl Try.ntmps6 rfl (fun w0 h0 hval => ?_)
 refine W.rg env [0, 1] [] ?_
 obtain ⟨hc1, H⟩ := of_must H
 obtain ⟨hc2, H⟩ := of_must H
 obtain ⟨hc3, H⟩ := of_must H
 refine W.sr env [] [] [4] [] rfl rfl rfl (.cons hc1 (.cons hc2 (.cons hc3 .nil))) .nil ?_
 refine W.ret ?_
 cases H
 exact At.ret env.ty rfl rfl (fun q hq => by cases hq) (.refl _) hval
theorem c_gasoliertop_sheetOf (fuel : Nat) (p0 : gasoliertop_Heaven) {r : Sheet} (H : gasoliertop_sheetOf fuel p0 = some r) : Ctr Try.prog 5 [.agg [roL 3 enc_Arr3Int p0.Rows, .int .i64 (p0.Off.x0), .int .i64 (p0.Off.x1), roL 3 enc_Arr3Int p0.Roofs, roL 1 enc_Int p0.Looks, .int .i64 (p0.Light.x0), .int .i64 (p0.Light.x1), .int .i64 (p0.Light.x2), .int .i64 (p0.Moon)]] (.agg [.int .i64 (r.Source), .int .i64 (r.Night), .int .i64 (r.Known), .int .i64 (r.Until), roL 5 enc_Row r.Rows, .int .i64 (r.Off.Num), .int .i64 (r.Off.Den), .int .i64 (r.Light.Lo), .int .i64 (r.Light.Hi)]) := by
 unfold gasoliertop_sheetOf at H
 refine Ctr.of_body (N := 75) Try.func5 (by kernel_rfl) (c := _) rfl Try.ntmps5 rfl (fun w0 h0 hval => ?_)
 refine W.rg env [1, 2] [1, 2] ?_
 refine W.seq ?_
 obtain ⟨y1, hy2, H⟩ := of_bindO H
 obtain ⟨y3, hy4, H⟩ := of_bindO H
 refine W.region env [] [⟨.int .i64 (y1), [], 0, []⟩, ⟨.int .i64 (y3), [], 0, []⟩] rfl rfl (by kernel_rfl) (.cons (by decide) (.cons (by decide) .nil)) (.free (c_gasolierref01_Mod p0.Off.x0 60 hy2) (.free (c_gasolierref01_Mod p0.Light.x0 500 hy4) .nil)) (At.keep (ts := [1, 2, 3]) (ids := [1, 2, 3]) rfl rfl ?_)
 refine At.thenC ?_
 refine W.seq ?_
 obtain ⟨y5, hy6, H⟩ := of_bindO H
 obtain ⟨hc7, H⟩ := of_must H
 refine W.region env [] [⟨.int .i64 (y5), [], 0, []⟩] rfl rfl (by kernel_rfl) (.cons (by decide) (.cons hc7 .nil)) (.free (c_gasolierref01_Mod p0.Light.x1 400 hy6) .nil) (At.keep (ts := [1, 2, 3]) (ids := [1, 2, 3]) rfl rfl ?_)
 refine At.thenC ?_
 refine W.rg env [1, 2, 3, 4] [1, 2, 3] ?_
 refine W.rg env [1, 2, 3, 4, 5] [1, 2, 3] ?_
 refine W.seq ?_
 refine W.rg env [1, 2, 3, 4, 5, 6] [1, 2, 3] ?_
 refine W.block ?_
 refine At.nilOwnCell 3 4 754 79 5 (e := fun i => enc_Row (([] : List Row).getD i default)) rfl rfl rfl ?_
 refine At.keep (ts := [1, 2, 3, 4, 5, 6]) (ids := [1, 2, 3, 754]) rfl rfl ?_
 refine W.loopGo H (fun (s8 : Int × Int × Int × (List Row)) => [(1, .lp 1 0), (2, .lp 2 0), (3, .lp 3 0), (4, .int .i64 (s8.1)), (5, .int .i64 (s8.2.1)), (6, .int .i64 (s8.2.2.1))]) (fun (s8 : Int × Int × Int × (List Row)) => [(1, .cells [roL 3 enc_Arr3Int p0.Rows, .int .i64 (p0.Off.x0), .int .i64 (p0.Off.x1), roL 3 enc_Arr3Int p0.Roofs, roL 1 enc_Int p0.Looks, .int .i64 (p0.Light.x0), .int .i64 (p0.Light.x1), .int .i64 (p0.Light.x2), .int .i64 (p0.Moon)]), (2, .cells [.int .i64 (0), .int .i64 (0), .int .i64 (0), .int .i64 (0), .nilS, .int .i64 (0), .int .i64 (0), .int .i64 (0), .int .i64 (0)]), (3, .cells [.int .i64 (1), .int .i64 (5), .int .i64 (0), .int .i64 (0), .buf 754 (s8.2.2.2).length, .int .i64 (y1), .int .i64 (10), .int .i64 (y3), .int .i64 ((y3 + y5))]), (754, bufL 79 5 enc_Row s8.2.2.2)]) (.cons .q (.cons .q (.cons .q (.cons .qi (.cons .qi (.cons .qi .nil)))))) (.cons .q (.cons (BSim.cells (.cons .q (.cons .q (.cons .q (.cons .q (.cons (by first | exact Sim.refl _ | exact Sim.nil _ _) (.cons .q (.cons .q (.cons .q (.cons .q .nil)))))))))) (.cons (BSim.cells (.cons .q (.cons .q (.cons .q (.cons .q (.cons .qc (.cons .q (.cons .q (.cons .q (.cons .q .nil)))))))))) (.cons .q .nil)))) (fun k8 s8 H K0 hK8 => ?_)
 refine W.seq ?_
 refine W.rg env [1, 2, 3, 4, 5, 6, 31] [1, 2, 3, 754] ?_
 refine W.cond rfl (fun hb9 => ?_) (fun hb9 => ?_)
 · have H := of_true H hb9
   refine W.skip ?_
   refine At.thenC ?_
   refine W.seq ?_
   refine W.block ?_
   refine W.rg env [1, 2, 3, 4, 5, 6, 7] [1, 2, 3, 7, 754] ?_
   refine W.seq ?_
   refine W.rg env [1, 2, 3, 4, 5, 6, 7, 39] [1, 2, 3, 7, 754] ?_
   refine W.joinC H (fun (s10 : (Arr3 Int)) => [(1, .lp 1 0), (2, .lp 2 0), (3, .lp 3 0), (4, .int .i64 (s8.1)), (5, .int .i64 (s8.2.1)), (6, .int .i64 (s8.2.2.1)), (7, .lp 7 0)]) (fun (s10 : (Arr3 Int)) => [(1, .cells [roL 3 enc_Arr3Int p0.Rows, .int .i64 (p0.Off.x0), .int .i64 (p0.Off.x1), roL 3 enc_Arr3Int p0.Roofs, roL 1 enc_Int p0.Looks, .int .i64 (p0.Light.x0), .int .i64 (p0.Light.x1), .int .i64 (p0.Light.x2), .int .i64 (p0.Moon)]), (2, .cells [.int .i64 (0), .int .i64 (0), .int .i64 (0), .int .i64 (0), .nilS, .int .i64 (0), .int .i64 (0), .int .i64 (0), .int .i64 (0)]), (3, .cells [.int .i64 (1), .int .i64 (5), .int .i64 (0), .int .i64 (0), .buf 754 (s8.2.2.2).length, .int .i64 (y1), .int .i64 (10), .int .i64 (y3), .int .i64 ((y3 + y5))]), (7, .cells [.int .i64 (s10.x0), .int .i64 (s10.x1), .int .i64 (s10.x2)]), (754, bufL 79 5 enc_Row s8.2.2.2)]) (fun s10 H => ?_) (fun k10 H hK10 => ?_)
   · refine W.seq ?_
     obtain ⟨y11, hy12, H⟩ := of_bindO H
     obtain ⟨hc13, H⟩ := of_must H
     refine W.region env [] [⟨.int .i64 (y11), [], 0, []⟩] rfl rfl rfl (.cons (by decide) (.cons hc13 .nil)) (.free (c_gasolierref01_Mod s10.x1 121 hy12) .nil) (At.keep (ts := [1, 2, 3, 4, 5, 6, 7, 8]) (ids := [1, 2, 3, 7, 8, 754]) rfl rfl ?_)
     refine At.thenC ?_
     refine W.seq ?_
     refine W.rg env [1, 2, 3, 4, 5, 6, 7, 8, 55] [1, 2, 3, 7, 8, 754] ?_
     refine W.joinC H (fun (s14 : Row) => [(1, .lp 1 0), (2, .lp 2 0), (3, .lp 3 0), (4, .int .i64 (s8.1)), (5, .int .i64 (s8.2.1)), (6, .int .i64 (s8.2.2.1)), (7, .lp 7 0), (8, .lp 8 0)]) (fun (s14 : Row) => [(1, .cells [roL 3 enc_Arr3Int p0.Rows, .int .i64 (p0.Off.x0), .int .i64 (p0.Off.x1), roL 3 enc_Arr3Int p0.Roofs, roL 1 enc_Int p0.Looks, .int .i64 (p0.Light.x0), .int .i64 (p0.Light.x1), .int .i64 (p0.Light.x2), .int .i64 (p0.Moon)]), (2, .cells [.int .i64 (0), .int .i64 (0), .int .i64 (0), .int .i64 (0), .nilS, .int .i64 (0), .int .i64 (0), .int .i64 (0), .int .i64 (0)]), (3, .cells [.int .i64 (1), .int .i64 (5), .int .i64 (0), .int .i64 (0), .buf 754 (s8.2.2.2).length, .int .i64 (y1), .int .i64 (10), .int .i64 (y3), .int .i64 ((y3 + y5))]), (7, .cells [.int .i64 (s10.x0), .int .i64 (s10.x1), .int .i64 (s10.x2)]), (8, .cells [.int .i64 (s14.Minute), .int .i64 (s14.Height.Num), .int .i64 (s14.Height.Den), .int .i64 (s14.Bearing.Num), .int .i64 (s14.Bearing.Den)]), (754, bufL 79 5 enc_Row s8.2.2.2)]) (fun s14 H => ?_) (fun k14 H hK14 => ?_)
     · refine W.seq ?_
       obtain ⟨hc15, H⟩ := of_must H
       refine W.region env [] [] rfl rfl rfl (.cons (⟨by first | rfl | (simp; done) | omega | (simp; omega), by have := hc15; first | simpa using this | (unfold room at this ⊢; simp at this ⊢; omega)⟩) .nil) .nil (At.keep (ts := [1, 2, 3, 4, 5, 6, 7]) (ids := [1, 2, 3, 7, 754]) rfl rfl ?_)
       refine At.convM (.cons (.refl _) (.cons (.refl _) (.cons (.refl _) (.cons (.refl _) (.cons (y := bufL 79 5 enc_Row (s8.2.2.2 ++ ([s14] : List Row))) (BSim.seg (Seg.push (Seg.refl enc_Row _) (Seg.lit (f := enc_Row) (sz := 5) ([s14] : List Row) rfl rfl (fun _ => rfl)))) .nil))))) ?_
       refine At.thenC ?_
       refine W.seq ?_
       obtain ⟨y16, hy17, H⟩ := of_bindO H
       obtain ⟨hc18, H⟩ := of_must H
       obtain ⟨hc19, H⟩ := of_must H
       refine W.region env [] [⟨.int .i64 (y16), [], 0, []⟩] rfl rfl rfl (.cons (by decide) (.cons hc18 (.cons hc19 .nil))) (.free (c_gasolierref01_Mod s10.x0 270 hy17) .nil) (At.keep (ts := [1, 2, 3, 4, 5, 6, 7]) (ids := [1, 2, 3, 7, 754]) rfl rfl ?_)
       refine At.thenC ?_
       obtain ⟨y20, hy21, H⟩ := of_bindO H
       obtain ⟨hc22, H⟩ := of_must H
       refine W.region env [] [⟨.int .i64 (y20), [], 0, []⟩] rfl rfl rfl (.cons (by decide) (.cons hc22 .nil)) (.free (c_gasolierref01_Mod s10.x2 60 hy21) .nil) (At.keep (ts := [1, 2, 3, 4, 5, 6]) (ids := [1, 2, 3, 754]) rfl rfl ?_)
       refine At.inb ?_
       refine At.thenC ?_
       obtain ⟨hc23, H⟩ := of_must H
       refine W.region env [] [] rfl rfl rfl (.cons hc23 .nil) .nil (At.keep (ts := [1, 2, 3, 4, 5, 6]) (ids := [1, 2, 3, 754]) rfl rfl ?_)
       refine At.thenK (At.keep (ts := [1, 2, 3, 4, 5, 6]) (ids := [1, 2, 3, 754]) rfl rfl ?_)
       exact At.conv (.cons .q (.cons .q (.cons .q (.cons .qi (.cons .qi (.cons .qi .nil)))))) (.cons .q (.cons (BSim.cells (.cons .q (.cons .q (.cons .q (.cons .q (.cons (by first | exact Sim.refl _ | exact Sim.nil _ _) (.cons .q (.cons .q (.cons .q (.cons .q .nil)))))))))) (.cons (BSim.cells (.cons .q (.cons .q (.cons .q (.cons .q (.cons .qc (.cons .q (.cons .q (.cons .q (.cons .q .nil)))))))))) (.cons .q .nil)))) (hK8 ((s8.1 + (1 + y16)), (s8.2.1 + y20), (s8.2.2.1 + 1), (s8.2.2.2 ++ ([s14] : List Row))) H)
     · refine W.cond rfl (fun hb24 => ?_) (fun hb24 => ?_)
       · have H := of_true H hb24
         refine W.region env [] [] rfl rfl rfl .nil .nil (At.keep (ts := [1, 2, 3, 4, 5, 6, 7, 8]) (ids := [1, 2, 3, 7, 8, 754]) rfl rfl ?_)
         refine At.thenK (At.keep (ts := [1, 2, 3, 4, 5, 6, 7, 8]) (ids := [1, 2, 3, 7, 8, 754]) rfl rfl ?_)
         exact At.conv (.cons .q (.cons .q (.cons .q (.cons .qi (.cons .qi (.cons .qi (.cons .q (.cons .q .nil)))))))) (.cons .q (.cons (BSim.cells (.cons .q (.cons .q (.cons .q (.cons .q (.cons (by first | exact Sim.refl _ | exact Sim.nil _ _) (.cons .q (.cons .q (.cons .q (.cons .q .nil)))))))))) (.cons (BSim.cells (.cons .q (.cons .q (.cons .q (.cons .q (.cons .qc (.cons .q (.cons .q (.cons .q (.cons .q .nil)))))))))) (.cons .q (.cons .q (.cons .q .nil)))))) (hK14 (⟨1439, (⟨(y11 - 60), 2⟩ : Frac), (⟨s8.2.1, 1⟩ : Frac)⟩ : Row) H)
       · have H := of_false H hb24
         refine W.skip ?_
         refine At.thenK (At.keep (ts := [1, 2, 3, 4, 5, 6, 7, 8]) (ids := [1, 2, 3, 7, 8, 754]) rfl rfl ?_)
         exact At.conv (.cons .q (.cons .q (.cons .q (.cons .qi (.cons .qi (.cons .qi (.cons .q (.cons .q .nil)))))))) (.cons .q (.cons (BSim.cells (.cons .q (.cons .q (.cons .q (.cons .q (.cons (by first | exact Sim.refl _ | exact Sim.nil _ _) (.cons .q (.cons .q (.cons .q (.cons .q .nil)))))))))) (.cons (BSim.cells (.cons .q (.cons .q (.cons .q (.cons .q (.cons .qc (.cons .q (.cons .q (.cons .q (.cons .q .nil)))))))))) (.cons .q (.cons .q (.cons .q .nil)))))) (hK14 (⟨s8.1, (⟨(y11 - 60), 2⟩ : Frac), (⟨s8.2.1, 1⟩ : Frac)⟩ : Row) H)
   · refine W.cond rfl (fun hb25 => ?_) (fun hb25 => ?_)
     · have H := of_true H hb25
       obtain ⟨hc26, H⟩ := of_must H
       refine W.region env [] [] rfl rfl rfl (.cons hc26 .nil) .nil (At.keep (ts := [1, 2, 3, 4, 5, 6, 7]) (ids := [1, 2, 3, 7, 754]) rfl rfl ?_)
       refine At.thenK (At.keep (ts := [1, 2, 3, 4, 5, 6, 7]) (ids := [1, 2, 3, 7, 754]) rfl rfl ?_)
       exact At.conv (.cons .q (.cons .q (.cons .q (.cons .qi (.cons .qi (.cons .qi (.cons .q .nil))))))) (.cons .q (.cons (BSim.cells (.cons .q (.cons .q (.cons .q (.cons .q (.cons (by first | exact Sim.refl _ | exact Sim.nil _ _) (.cons .q (.cons .q (.cons .q (.cons .q .nil)))))))))) (.cons (BSim.cells (.cons .q (.cons .q (.cons .q (.cons .q (.cons .qc (.cons .q (.cons .q (.cons .q (.cons .q .nil)))))))))) (.cons .q (.cons .q .nil))))) (hK10 (p0.Rows.getD (s8.2.2.1).toNat default) H)
     · have H := of_false H hb25
       refine W.skip ?_
       refine At.thenK (At.keep (ts := [1, 2, 3, 4, 5, 6, 7]) (ids := [1, 2, 3, 7, 754]) rfl rfl ?_)
       exact At.conv (.cons .q (.cons .q (.cons .q (.cons .qi (.cons .qi (.cons .qi (.cons .q .nil))))))) (.cons .q (.cons (BSim.cells (.cons .q (.cons .q (.cons .q (.cons .q (.cons (by first | exact Sim.refl _ | exact Sim.nil _ _) (.cons .q (.cons .q (.cons .q (.cons .q .nil)))))))))) (.cons (BSim.cells (.cons .q (.cons .q (.cons .q (.cons .q (.cons .qc (.cons .q (.cons .q (.cons .q (.cons .q .nil)))))))))) (.cons .q (.cons .q .nil))))) (hK10 (⟨1, 5, 9⟩ : (Arr3 Int)) H)
 · have H := of_false H hb9
   refine W.exit ?_
   refine At.xthen ?_
   refine At.xthen ?_
   refine At.xhere ?_
   refine At.thenC ?_
   refine W.rg env [2] [2, 754] ?_
   refine W.ret ?_
   cases H
   exact At.ret env.ty rfl rfl (fun q hq => by cases hq; exact (by first | rfl | (simp; done) | omega | (simp; omega))) (.refl _) hval
theorem c_moon_Margin (fuel : Nat) (p0 : Sheet) (p1 : (List Roof)) (p2 : Int) {r : (Frac × Int)} (H : moon_Margin fuel p0 p1 p2 = some r) : Ctr Try.prog 15 [.agg [.int .i64 (p0.Source), .int .i64 (p0.Night), .int .i64 (p0.Known), .int .i64 (p0.Until), roL 5 enc_Row p0.Rows, .int .i64 (p0.Off.Num), .int .i64 (p0.Off.Den), .int .i64 (p0.Light.Lo), .int .i64 (p0.Light.Hi)], roL 3 enc_Roof p1, .int .i64 (p2)] (.tup [.agg [.int .i64 (r.1.Num), .int .i64 (r.1.Den)], .int .i64 (r.2)]) := by
 unfold moon_Margin at H
 refine Ctr.of_body (N := 27) Try.func15 (by kernel_rfl) (c := _) rfl Try.ntmps15 rfl (fun w0 h0 hval => ?_)
 refine W.rg env [1, 2, 3, 6] [3, 6] ?_
 refine W.seq ?_
 refine W.block ?_
 refine W.seq ?_
 obtain ⟨y1, hy2, H⟩ := of_bindO H
 refine W.region env [] [⟨.int .i64 (y1), [], 0, []⟩] rfl rfl rfl .nil (.free (c_moon_CheckSheet fuel p0 hy2) .nil) (At.keep (ts := [1, 2, 3, 6, 8]) (ids := [3, 6]) rfl rfl ?_)
 refine At.thenC ?_
 refine W.cond rfl (fun hb3 => ?_) (fun hb3 => ?_)
 · have H := of_true H hb3
   refine W.rg env [6, 7] [6] ?_
   refine W.ret ?_
   refine At.rinb ?_
   refine At.rthen ?_
   cases H
   exact At.ret env.ty rfl rfl (fun q hq => by cases hq) (.refl _) hval
 · have H := of_false H hb3
   refine W.seq ?_
   obtain ⟨y4, hy5, H⟩ := of_bindO H
   refine W.region env [] [⟨.bool (y4), [], 0, []⟩] rfl rfl rfl .nil (.free (c_moon_areRoofs p1 hy5) .nil) (At.keep (ts := [1, 2, 3, 6, 13]) (ids := [3, 6]) rfl rfl ?_)
   refine At.thenC ?_
   refine W.cond rfl (fun hb6 => ?_) (fun hb6 => ?_)
   · have H := of_true H hb6
     refine W.rg env [6, 7] [6] ?_
     refine W.ret ?_
     refine At.rinb ?_
     refine At.rthen ?_
     cases H
     exact At.ret env.ty rfl rfl (fun q hq => by cases hq) (.refl _) hval
   · have H := of_false H hb6
     refine W.sr env [] [⟨.bool ((moon_isMinute p2)), [], 0, []⟩] [1, 2, 3, 6, 18] [3, 6] rfl rfl rfl .nil (.free (c_moon_isMinute p2) .nil) ?_
     refine W.cond rfl (fun hb7 => ?_) (fun hb7 => ?_)
     · have H := of_true H hb7
       refine W.rg env [6, 7] [6] ?_
       refine W.ret ?_
       refine At.rinb ?_
       refine At.rthen ?_
       cases H
       exact At.ret env.ty rfl rfl (fun q hq => by cases hq) (.refl _) hval
     · have H := of_false H hb7
       refine W.skip ?_
       refine At.inb ?_
       refine At.thenC ?_
       refine W.seq ?_
       obtain ⟨y8, hy9, H⟩ := of_bindO H
       refine W.region env [] [⟨.agg [.int .i64 (y8.Num), .int .i64 (y8.Den)], [], 0, []⟩] rfl rfl rfl .nil (.free (c_moon_margin fuel p0 p1 p2 hy9) .nil) (At.keep (ts := [6, 7]) (ids := [6]) rfl rfl ?_)
       refine At.thenC ?_
       refine W.ret ?_
       cases H
       exact At.ret env.ty rfl rfl (fun q hq => by cases hq) (.refl _) hval
theorem c_moon_Compare (fuel : Nat) (p0 : Frac) (p1 : Frac) {r : (Int × Int)} (H : moon_Compare fuel p0 p1 = some r) : Ctr Try.prog 16 [.agg [.int .i64 (p0.Num), .int .i64 (p0.Den)], .agg [.int .i64 (p1.Num), .int .i64 (p1.Den)]] (.tup [.int .i64 (r.1), .int .i64 (r.2)]) := by
 unfold moon_Compare at H
 refine Ctr.of_body (N := 17) Try.func16 (by kernel_rfl) (c := _) rfl Try.ntmps16 rfl (fun w0 h0 hval => ?_)
 refine W.rg env [2, 3] [2, 3] ?_
 refine W.seq ?_
 refine W.seq ?_
 obtain ⟨y1, hy2, H⟩ := of_bindO H
 obtain ⟨y3, hy4, H⟩ := of_bindO H
 refine W.region env [] [⟨.bool (y1), [], 0, []⟩, ⟨.bool (y3), [], 0, []⟩] rfl rfl rfl (.cons (fun h => h) (.cons (fun h => h) (.cons (fun h => by rw [h]; rfl) .nil))) (.free (c_moon_isFrac p0 20000000 hy2) (.on (fun hW => c_moon_isFrac p1 20000000 (of_true hy4 hW)) .nil)) (At.keep (ts := [2, 3, 13]) (ids := [2, 3]) rfl rfl ?_)
 refine At.thenC ?_
 refine W.cond rfl (fun hb5 => ?_) (fun hb5 => ?_)
 · have H := of_true H hb5
   refine W.rg env [4, 5] [] ?_
   refine W.ret ?_
   refine At.rthen ?_
   cases H
   exact At.ret env.ty rfl rfl (fun q hq => by cases hq) (.refl _) hval
 · have H := of_false H hb5
   refine W.skip ?_
   refine At.thenC ?_
   refine W.seq ?_
   obtain ⟨y6, hy7, H⟩ := of_bindO H
   refine W.region env [] [⟨.int .i64 (y6), [], 0, []⟩] rfl rfl rfl .nil (.free (c_moon_compare fuel p0 p1 hy7) .nil) (At.keep (ts := [4, 5]) (ids := []) rfl rfl ?_)
   refine At.thenC ?_
   refine W.ret ?_
   cases H
   exact At.ret env.ty rfl rfl (fun q hq => by cases hq) (.refl _) hval
theorem c_gasoliertop_above (fuel : Nat) (p0 : Sheet) (p1 : (List Roof)) (p2 : Int) (p3 : Frac) {r : (Bool × Bool)} (H : gasoliertop_above fuel p0 p1 p2 p3 = some r) : Ctr Try.prog 7 [.agg [.int .i64 (p0.Source), .int .i64 (p0.Night), .int .i64 (p0.Known), .int .i64 (p0.Until), roL 5 enc_Row p0.Rows, .int .i64 (p0.Off.Num), .int .i64 (p0.Off.Den), .int .i64 (p0.Light.Lo), .int .i64 (p0.Light.Hi)], roL 3 enc_Roof p1, .int .i64 (p2), .agg [.int .i64 (p3.Num), .int .i64 (p3.Den)]] (.tup [.bool (r.1), .bool (r.2)]) := by
 unfold gasoliertop_above at H
 refine Ctr.of_body (N := 40) Try.func7 (by kernel_rfl) (c := _) rfl Try.ntmps7 rfl (fun w0 h0 hval => ?_)
 refine W.rg env [1, 2, 4, 7] [4, 7] ?_
 refine W.seq ?_
 obtain ⟨y1, hy2, H⟩ := of_bindO H
 refine W.region env [] [⟨.tup [.agg [.int .i64 (y1.1.Num), .int .i64 (y1.1.Den)], .int .i64 (y1.2)], [], 0, []⟩] rfl rfl rfl .nil (.free (c_moon_Margin fuel p0 p1 p2 hy2) .nil) (At.keep (ts := [7, 10, 11]) (ids := [7, 10]) rfl rfl ?_)
 refine At.thenC ?_
 refine W.seq ?_
 obtain ⟨hc3, H⟩ := of_must H
 obtain ⟨y4, hy5, H⟩ := of_bindO H
 refine W.region env [] [⟨.tup [.int .i64 (y4.1), .int .i64 (y4.2)], [], 0, []⟩] rfl rfl rfl (.cons hc3 .nil) (.free (c_moon_Compare fuel y1.1 (⟨(0 - p3.Num), p3.Den⟩ : Frac) hy5) .nil) (At.keep (ts := [11, 12, 13]) (ids := []) rfl rfl ?_)
 refine At.thenC ?_
 refine W.sr env [] [] [8, 9] [] rfl rfl rfl (.cons (fun h => h) (.cons (fun h => h) .nil)) .nil ?_
 refine W.ret ?_
 cases H
 exact At.ret env.ty rfl rfl (fun q hq => by cases hq) (.refl _) hval
theorem c_moon_has (fuel : Nat) (p0 : Slip) (p1 : Frac) {r : Bool} (H : moon_has fuel p0 p1 = some r) : Ctr Try.prog 25 [.agg [.int .i64 (p0.Lo.Num), .int .i64 (p0.Lo.Den), .bool (p0.Open), .int .i64 (p0.Hi.Num), .int .i64 (p0.Hi.Den)], .agg [.int .i64 (p1.Num), .int .i64 (p1.Den)]] (.bool (r)) := by
 unfold moon_has at H
 refine Ctr.of_body (N := 28) Try.func25 (by kernel_rfl) (c := _) rfl Try.ntmps25 rfl (fun w0 h0 hval => ?_)
 refine W.rg env [2, 3] [2, 3] ?_
 refine W.seq ?_
 obtain ⟨y1, hy2, H⟩ := of_bindO H
 refine W.region env [] [⟨.int .i64 (y1), [], 0, []⟩] rfl rfl rfl .nil (.free (c_moon_compare fuel p1 p0.Lo hy2) .nil) (At.keep (ts := [2, 3, 5]) (ids := [2, 3]) rfl rfl ?_)
 refine At.thenC ?_
 refine W.seq ?_
 obtain ⟨y3, hy4, H⟩ := of_bindO H
 refine W.region env [] [⟨.int .i64 (y3), [], 0, []⟩] rfl rfl rfl (.cons (fun h => h) (.cons (fun h => h) (.cons (fun h => h) (.cons (fun h => h) (.cons (fun h => h) (.cons (fun hW h => by revert hW h; first | (simp +contextual; done) | grind) (.cons (fun h => by rw [h]; rfl) (.cons (fun h => h) (.cons (fun h => h) (.cons (fun h => h) (.cons (fun h => h) (.cons (fun h => h) .nil)))))))))))) (.on (fun hW => c_moon_compare fuel p1 p0.Hi (of_true hy4 hW)) .nil) (At.keep (ts := [4]) (ids := []) rfl rfl ?_)
 refine At.thenC ?_
 refine W.ret ?_
 cases H
 exact At.ret env.ty rfl rfl (fun q hq => by cases hq) (.refl _) hval
theorem c_moon_CheckSlip (fuel : Nat) (p0 : Sky) (p1 : Int) (p2 : Int) (p3 : Frac) {r : Int} (H : moon_CheckSlip fuel p0 p1 p2 p3 = some r) : Ctr Try.prog 10 [.agg [roL 9 enc_Sheet p0.Sheets, roL 3 enc_Roof p0.Roofs, roL 6 enc_Sighting p0.Sightings], .int .i64 (p1), .int .i64 (p2), .agg [.int .i64 (p3.Num), .int .i64 (p3.Den)]] (.int .i64 (r)) := by
 unfold moon_CheckSlip at H
 refine Ctr.of_body (N := 34) Try.func10 (by kernel_rfl) (c := _) rfl Try.ntmps10 rfl (fun w0 h0 hval => ?_)
 refine W.rg env [1, 2, 4, 7] [4, 7] ?_
 refine W.seq ?_
 obtain ⟨y1, hy2, H⟩ := of_bindO H
 refine W.region env [] [⟨.tup [.po y1.1.isSome [.int .i64 ((y1.1.getD default).Sheet.Source), .int .i64 ((y1.1.getD default).Sheet.Night), .int .i64 ((y1.1.getD default).Sheet.Known), .int .i64 ((y1.1.getD default).Sheet.Until), roL 5 enc_Row ((y1.1.getD default).Sheet.Rows), .int .i64 ((y1.1.getD default).Sheet.Off.Num), .int .i64 ((y1.1.getD default).Sheet.Off.Den), .int .i64 ((y1.1.getD default).Sheet.Light.Lo), .int .i64 ((y1.1.getD default).Sheet.Light.Hi), roL 3 enc_Roof ((y1.1.getD default).roofs), roL 6 enc_Sighting ((y1.1.getD default).sightings), .int .i64 ((y1.1.getD default).slip.Lo.Num), .int .i64 ((y1.1.getD default).slip.Lo.Den), .bool ((y1.1.getD default).slip.Open), .int .i64 ((y1.1.getD default).slip.Hi.Num), .int .i64 ((y1.1.getD default).slip.Hi.Den)], .int .i64 (y1.2)], [], 0, []⟩] rfl rfl rfl .nil (.free (Ctr.sim (.cons (.refl _) (.cons (.refl _) (.cons (.refl _) (.cons (Sim.nil _ _) .nil)))) (c_moon_look fuel p0 p1 p2 [] hy2)) .nil) (At.keep (ts := [7, 9, 10]) (ids := [7]) rfl rfl ?_)
 refine At.thenC ?_
 refine W.seq ?_
 refine W.block ?_
 refine W.rg env [7, 9, 10, 18] [7] ?_
 refine W.cond rfl (fun hb3 => ?_) (fun hb3 => ?_)
 · have H := of_true H hb3
   refine W.rg env [8] [] ?_
   refine W.ret ?_
   refine At.rinb ?_
   refine At.rthen ?_
   cases H
   exact At.ret env.ty rfl rfl (fun q hq => by cases hq) (.refl _) hval
 · have H := of_false H hb3
   refine W.seq ?_
   obtain ⟨y4, hy5, H⟩ := of_bindO H
   refine W.region env [] [⟨.bool (y4), [], 0, []⟩] rfl rfl rfl .nil (.free (c_moon_isFrac p3 20000000 hy5) .nil) (At.keep (ts := [7, 9, 22]) (ids := [7]) rfl rfl ?_)
   refine At.thenC ?_
   refine W.cond rfl (fun hb6 => ?_) (fun hb6 => ?_)
   · have H := of_true H hb6
     refine W.rg env [8] [] ?_
     refine W.ret ?_
     refine At.rinb ?_
     refine At.rthen ?_
     cases H
     exact At.ret env.ty rfl rfl (fun q hq => by cases hq) (.refl _) hval
   · have H := of_false H hb6
     refine W.seq ?_
     obtain ⟨hc7, H⟩ := of_must H
     obtain ⟨y8, hy9, H⟩ := of_bindO H
     refine W.region env [] [⟨.bool (y8), [], 0, []⟩] rfl rfl (by kernel_rfl) (.cons hc7 .nil) (.free (c_moon_has fuel ((y1.1.getD default).slip) p3 hy9) .nil) (At.keep (ts := [26]) (ids := []) rfl rfl ?_)
     refine At.thenC ?_
     refine W.cond rfl (fun hb10 => ?_) (fun hb10 => ?_)
     · have H := of_true H hb10
       refine W.rg env [8] [] ?_
       refine W.ret ?_
       refine At.rinb ?_
       refine At.rthen ?_
       cases H
       exact At.ret env.ty rfl rfl (fun q hq => by cases hq) (.refl _) hval
     · have H := of_false H hb10
       refine W.skip ?_
       refine At.inb ?_
       refine At.thenC ?_
       refine W.rg env [8] [] ?_
       refine W.ret ?_
       cases H
       exact At.ret env.ty rfl rfl (fun q hq => by cases hq) (.refl _) hval
theorem c_bylaw_isTruth (p0 : Truth) : Ctr Try.prog 30 [.agg [.int .i64 (p0.Set), .int .i64 (p0.Rise), .int .i64 (p0.Light), .bool (p0.Fog)]] (.bool ((bylaw_isTruth p0))) := by
 obtain ⟨r, H⟩ : ∃ r, bylaw_isTruth p0 = r := ⟨_, rfl⟩
 rw [H]
 unfold bylaw_isTruth at H
 refine Ctr.of_body (N := 23) Try.func30 (by kernel_rfl) (c := _) rfl Try.ntmps30 rfl (fun w0 h0 hval => ?_)
 refine W.rg env [1] [1] ?_
 refine W.sr env [] [⟨.bool ((bylaw_in p0.Light 0 1000)), [], 0, []⟩] [2] [] rfl rfl rfl (.cons (fun h => h) (.cons (fun h => h) (.cons (fun h => h) (.cons (fun h => h) (.cons (fun h => h) (.cons (fun h => h) (.cons (fun h => h) (.cons (fun h => h) (.cons (fun h => h) (.cons (fun h => h) (.cons (fun h => h) .nil))))))))))) (.on (fun hW => c_bylaw_in p0.Light 0 1000) .nil) ?_
 refine W.ret ?_
 cases H
 exact At.ret env.ty rfl rfl (fun q hq => by cases hq) (.refl _) hval
theorem c_bylaw_areTimes (p0 : Times) : Ctr Try.prog 31 [.agg [.int .i64 (p0.On), .int .i64 (p0.Off)]] (.bool ((bylaw_areTimes p0))) := by
 obtain ⟨r, H⟩ : ∃ r, bylaw_areTimes p0 = r := ⟨_, rfl⟩
 rw [H]
 unfold bylaw_areTimes at H
 refine Ctr.of_body (N := 23) Try.func31 (by kernel_rfl) (c := _) rfl Try.ntmps31 rfl (fun w0 h0 hval => ?_)
 refine W.rg env [1] [1] ?_
 refine W.sr env [] [] [2] [] rfl rfl rfl (.cons (fun h => h) (.cons (fun h => h) (.cons (fun h => h) (.cons (fun h => h) (.cons (fun h => h) (.cons (fun h => h) (.cons (fun h => h) (.cons (fun h => h) (.cons (fun hW h => by revert hW h; first | (simp +contextual; done) | grind) (.cons (fun h => h) (.cons (fun h => h) (.cons (fun h => h) (.cons (fun h => h) (.cons (fun hW h => by revert hW h; first | (simp +contextual; done) | grind) (.cons (fun h => by rw [h]; rfl) .nil))))))))))))))) .nil ?_
 refine W.ret ?_
 cases H
 exact At.ret env.ty rfl rfl (fun q hq => by cases hq) (.refl _) hval
theorem c_bylaw_lawful (p0 : Version) (p1 : Truth) (p2 : Times) {r : Bool} (H : bylaw_lawful p0 p1 p2 = some r) : Ctr Try.prog 34 [.agg [.int .i64 (p0.Source), .int .i64 (p0.Class), .int .i64 (p0.From), .int .i64 (p0.On.Lo), .int .i64 (p0.On.Hi), .int .i64 (p0.Off.Lo), .int .i64 (p0.Off.Hi), .int .i64 (p0.Moon), .int .i64 (p0.Fog), .int .i64 (p0.Known), .int .i64 (p0.Until)], .agg [.int .i64 (p1.Set), .int .i64 (p1.Rise), .int .i64 (p1.Light), .bool (p1.Fog)], .agg [.int .i64 (p2.On), .int .i64 (p2.Off)]] (.bool (r)) := by
 unfold bylaw_lawful at H
 refine Ctr.of_body (N := 63) Try.func34 (by kernel_rfl) (c := _) rfl Try.ntmps34 rfl (fun w0 h0 hval => ?_)
 refine W.rg env [3, 4, 5] [3, 4, 5] ?_
 refine W.seq ?_
 refine W.sr env [] [] [3, 4, 5, 17] [3, 4, 5] rfl rfl rfl (.cons (fun h => h) (.cons (fun h => h) (.cons (fun h => h) (.cons (fun h => h) (.cons (fun h => h) .nil))))) .nil ?_
 refine W.cond rfl (fun hb1 => ?_) (fun hb1 => ?_)
 · have H := of_true H hb1
   refine W.rg env [6] [] ?_
   refine W.ret ?_
   refine At.rthen ?_
   cases H
   exact At.ret env.ty rfl rfl (fun q hq => by cases hq) (.refl _) hval
 · have H := of_false H hb1
   refine W.skip ?_
   refine At.thenC ?_
   refine W.rg env [3, 4, 5, 7] [3, 4, 5] ?_
   refine W.seq ?_
   refine W.rg env [3, 4, 5, 7, 19] [3, 4, 5] ?_
   refine W.joinC H (fun (s2 : Int) => [(3, .lp 3 0), (4, .lp 4 0), (5, .lp 5 0), (7, .int .i64 (s2))]) (fun (s2 : Int) => [(3, .cells [.int .i64 (p0.Source), .int .i64 (p0.Class), .int .i64 (p0.From), .int .i64 (p0.On.Lo), .int .i64 (p0.On.Hi), .int .i64 (p0.Off.Lo), .int .i64 (p0.Off.Hi), .int .i64 (p0.Moon), .int .i64 (p0.Fog), .int .i64 (p0.Known), .int .i64 (p0.Until)]), (4, .cells [.int .i64 (p1.Set), .int .i64 (p1.Rise), .int .i64 (p1.Light), .bool (p1.Fog)]), (5, .cells [.int .i64 (p2.On), .int .i64 (p2.Off)])]) (fun s2 H => ?_) (fun k2 H hK2 => ?_)
   · obtain ⟨hc3, H⟩ := of_must H
     obtain ⟨hc4, H⟩ := of_must H
     obtain ⟨hc5, H⟩ := of_must H
     obtain ⟨hc6, H⟩ := of_must H
     obtain ⟨hc7, H⟩ := of_must H
     obtain ⟨hc8, H⟩ := of_must H
     refine W.sr env [] [⟨.bool ((bylaw_in p2.On ((p1.Set + p0.On.Lo) - s2) ((p1.Set + p0.On.Hi) - s2))), [], 0, []⟩, ⟨.bool ((bylaw_in p2.Off (p1.Rise - p0.Off.Hi) (p1.Rise - p0.Off.Lo))), [], 0, []⟩] [6] [] rfl rfl rfl (.cons (fun h => h) (.cons (fun h => h) (.cons (fun h => h) (.cons (fun h => h) (.cons hc3 (.cons (fun h => h) (.cons (fun h => h) (.cons hc4 (.cons (fun h => h) (.cons (fun h => h) (.cons (fun h => h) (.cons (fun h => h) (.cons (fun h => h) (.cons hc5 (.cons (fun h => h) (.cons (fun h => h) (.cons hc6 (.cons (fun h => h) (.cons (fun h => h) (.cons (fun h => h) (.cons (fun h => h) (.cons (fun h => h) (.cons (fun h => h) (.cons (fun h => h) (.cons (fun h => h) (.cons (fun h => h) (.cons (fun h => h) (.cons hc7 (.cons (fun h => h) (.cons (fun h => h) (.cons (fun h => h) (.cons (fun h => h) (.cons (fun h => h) (.cons hc8 (.cons (fun h => h) (.cons (fun h => h) (.cons (fun h => h) (.cons (fun h => h) (.cons (fun h => h) (.cons (fun h => h) .nil)))))))))))))))))))))))))))))))))))))))) (.on (fun hW => c_bylaw_in p2.On ((p1.Set + p0.On.Lo) - s2) ((p1.Set + p0.On.Hi) - s2)) (.on (fun hW => c_bylaw_in p2.Off (p1.Rise - p0.Off.Hi) (p1.Rise - p0.Off.Lo)) .nil)) ?_
     refine W.ret ?_
     cases H
     exact At.ret env.ty rfl rfl (fun q hq => by cases hq) (.refl _) hval
   · refine W.cond rfl (fun hb9 => ?_) (fun hb9 => ?_)
     · have H := of_true H hb9
       refine W.region env [] [] rfl rfl rfl .nil .nil (At.keep (ts := [3, 4, 5, 7]) (ids := [3, 4, 5]) rfl rfl ?_)
       refine At.thenK (At.keep (ts := [3, 4, 5, 7]) (ids := [3, 4, 5]) rfl rfl ?_)
       exact At.conv (.cons .q (.cons .q (.cons .q (.cons .qi .nil)))) (.cons .q (.cons .q (.cons .q .nil))) (hK2 p0.Fog H)
     · have H := of_false H hb9
       refine W.skip ?_
       refine At.thenK (At.keep (ts := [3, 4, 5, 7]) (ids := [3, 4, 5]) rfl rfl ?_)
       exact At.conv (.cons .q (.cons .q (.cons .q (.cons .qi .nil)))) (.cons .q (.cons .q (.cons .q .nil))) (hK2 0 H)
theorem c_bylaw_True (p0 : Bylaw) (p1 : Int) (p2 : Int) (p3 : Truth) (p4 : Times) (p5 : Int) {r : (Bool × Int)} (H : bylaw_True p0 p1 p2 p3 p4 p5 = some r) : Ctr Try.prog 13 [.agg [roL 11 enc_Version p0.Versions, roL 5 enc_Street p0.Streets], .int .i64 (p1), .int .i64 (p2), .agg [.int .i64 (p3.Set), .int .i64 (p3.Rise), .int .i64 (p3.Light), .bool (p3.Fog)], .agg [.int .i64 (p4.On), .int .i64 (p4.Off)], .int .i64 (p5)] (.tup [.bool (r.1), .int .i64 (r.2)]) := by
 unfold bylaw_True at H
 refine Ctr.of_body (N := 56) Try.func13 (by kernel_rfl) (c := _) rfl Try.ntmps13 rfl (fun w0 h0 hval => ?_)
 refine W.rg env [1, 2, 5, 6, 9, 10] [6, 9, 10] ?_
 refine W.seq ?_
 obtain ⟨y1, hy2, H⟩ := of_bindO H
 refine W.region env [] [⟨.int .i64 (y1), [], 0, []⟩] rfl rfl rfl .nil (.free (c_bylaw_Check p0 hy2) .nil) (At.keep (ts := [1, 2, 5, 6, 9, 10, 14]) (ids := [6, 9, 10]) rfl rfl ?_)
 refine At.thenC ?_
 refine W.seq ?_
 refine W.block ?_
 refine W.rg env [1, 2, 5, 6, 9, 10, 14, 18] [6, 9, 10] ?_
 refine W.cond rfl (fun hb3 => ?_) (fun hb3 => ?_)
 · have H := of_true H hb3
   refine W.rg env [12, 13] [] ?_
   refine W.ret ?_
   refine At.rinb ?_
   refine At.rthen ?_
   cases H
   exact At.ret env.ty rfl rfl (fun q hq => by cases hq) (.refl _) hval
 · have H := of_false H hb3
   refine W.sr env [] [⟨.bool ((bylaw_isTruth p3)), [], 0, []⟩] [1, 2, 5, 6, 9, 10, 22] [6, 9, 10] rfl rfl rfl .nil (.free (c_bylaw_isTruth p3) .nil) ?_
   refine W.cond rfl (fun hb4 => ?_) (fun hb4 => ?_)
   · have H := of_true H hb4
     refine W.rg env [12, 13] [] ?_
     refine W.ret ?_
     refine At.rinb ?_
     refine At.rthen ?_
     cases H
     exact At.ret env.ty rfl rfl (fun q hq => by cases hq) (.refl _) hval
   · have H := of_false H hb4
     refine W.sr env [] [⟨.bool ((bylaw_areTimes p4)), [], 0, []⟩] [1, 2, 5, 6, 9, 10, 26] [6, 9, 10] rfl rfl rfl .nil (.free (c_bylaw_areTimes p4) .nil) ?_
     refine W.cond rfl (fun hb5 => ?_) (fun hb5 => ?_)
     · have H := of_true H hb5
       refine W.rg env [12, 13] [] ?_
       refine W.ret ?_
       refine At.rinb ?_
       refine At.rthen ?_
       cases H
       exact At.ret env.ty rfl rfl (fun q hq => by cases hq) (.refl _) hval
     · have H := of_false H hb5
       refine W.sr env [] [⟨.bool ((bylaw_isNight p2)), [], 0, []⟩, ⟨.bool ((bylaw_isNight p5)), [], 0, []⟩] [1, 2, 5, 6, 9, 10, 30] [6, 9, 10] rfl rfl rfl (.cons (fun h => h) (.cons (fun h => h) (.cons (fun h => by rw [h]; rfl) .nil))) (.free (c_bylaw_isNight p2) (.on (fun hW => c_bylaw_isNight p5) .nil)) ?_
       refine W.cond rfl (fun hb6 => ?_) (fun hb6 => ?_)
       · have H := of_true H hb6
         refine W.rg env [12, 13] [] ?_
         refine W.ret ?_
         refine At.rinb ?_
         refine At.rthen ?_
         cases H
         exact At.ret env.ty rfl rfl (fun q hq => by cases hq) (.refl _) hval
       · have H := of_false H hb6
         refine W.skip ?_
         refine At.inb ?_
         refine At.thenC ?_
         refine W.seq ?_
         obtain ⟨y7, hy8, H⟩ := of_bindO H
         refine W.region env [] [⟨.tup [.agg [.int .i64 (y7.1.v.Source), .int .i64 (y7.1.v.Class), .int .i64 (y7.1.v.From), .int .i64 (y7.1.v.On.Lo), .int .i64 (y7.1.v.On.Hi), .int .i64 (y7.1.v.Off.Lo), .int .i64 (y7.1.v.Off.Hi), .int .i64 (y7.1.v.Moon), .int .i64 (y7.1.v.Fog), .int .i64 (y7.1.v.Known), .int .i64 (y7.1.v.Until), .int .i64 (y7.1.n.No), .int .i64 (y7.1.n.Set.Lo), .int .i64 (y7.1.n.Set.Hi), .int .i64 (y7.1.n.Rise.Lo), .int .i64 (y7.1.n.Rise.Hi), .int .i64 (y7.1.n.Light.Lo), .int .i64 (y7.1.n.Light.Hi), .int .i64 (y7.1.n.Fog)], .int .i64 (y7.2)], [], 0, []⟩] rfl rfl rfl .nil (.free (c_bylaw_known p0 p1 (⟨p2, (⟨0, 0⟩ : Range), (⟨0, 0⟩ : Range), (⟨0, 0⟩ : Range), 0⟩ : Night) p5 hy8) .nil) (At.keep (ts := [9, 10, 14, 15]) (ids := [9, 10, 15]) rfl rfl ?_)
         refine At.thenC ?_
         refine W.seq ?_
         refine W.rg env [9, 10, 14, 15, 49] [9, 10, 15] ?_
         refine W.cond rfl (fun hb9 => ?_) (fun hb9 => ?_)
         · have H := of_true H hb9
           refine W.rg env [12, 13] [] ?_
           refine W.ret ?_
           refine At.rthen ?_
           cases H
           exact At.ret env.ty rfl rfl (fun q hq => by cases hq) (.refl _) hval
         · have H := of_false H hb9
           refine W.skip ?_
           refine At.thenC ?_
           refine W.seq ?_
           obtain ⟨y10, hy11, H⟩ := of_bindO H
           refine W.region env [] [⟨.bool (y10), [], 0, []⟩] rfl rfl rfl .nil (.free (c_bylaw_lawful y7.1.v p3 p4 hy11) .nil) (At.keep (ts := [12, 13]) (ids := []) rfl rfl ?_)
           refine At.thenC ?_
           refine W.ret ?_
           cases H
           exact At.ret env.ty rfl rfl (fun q hq => by cases hq) (.refl _) hval
theorem c_bylaw_window__minutes (p0 : bylaw_window) (p1 : Option Range) (p1_g : Nat) (p1_a p1_b : List AV) (p1_h : ∀  r, p1  = some r → Ctr Try.prog p1_g (p1_a ++ ([] ++ p1_b)) (.agg [.int .i64 (r.Lo), .int .i64 (r.Hi)])) {r : (Range × Int)} (H : bylaw_window__minutes p0 p1 = some r) : Ctr Try.prog 61 [.agg [.int .i64 (p0.v.Source), .int .i64 (p0.v.Class), .int .i64 (p0.v.From), .int .i64 (p0.v.On.Lo), .int .i64 (p0.v.On.Hi), .int .i64 (p0.v.Off.Lo), .int .i64 (p0.v.Off.Hi), .int .i64 (p0.v.Moon), .int .i64 (p0.v.Fog), .int .i64 (p0.v.Known), .int .i64 (p0.v.Until), .int .i64 (p0.n.No), .int .i64 (p0.n.Set.Lo), .int .i64 (p0.n.Set.Hi), .int .i64 (p0.n.Rise.Lo), .int .i64 (p0.n.Rise.Hi), .int .i64 (p0.n.Light.Lo), .int .i64 (p0.n.Light.Hi), .int .i64 (p0.n.Fog)], .clo (.func p1_g) p1_a p1_b] (.tup [.agg [.int .i64 (r.1.Lo), .int .i64 (r.1.Hi)], .int .i64 (r.2)]) := by
 unfold bylaw_window__minutes at H
 refine Ctr.of_body (N := 20) Try.func61 (by kernel_rfl) (c := _) rfl Try.ntmps61 rfl (fun w0 h0 hval => ?_)
 refine W.rg env [1, 2, 4] [2, 4] ?_
 refine W.seq ?_
 refine W.sr env [] [⟨.int .i64 ((bylaw_window__lit p0)), [], 0, []⟩] [1, 4, 9] [4] rfl rfl rfl .nil (.free (c_bylaw_window__lit p0) .nil) ?_
 refine W.cond rfl (fun hb1 => ?_) (fun hb1 => ?_)
 · have H := of_true H hb1
   refine W.rg env [4, 5] [4] ?_
   refine W.ret ?_
   refine At.rthen ?_
   cases H
   exact At.ret env.ty rfl rfl (fun q hq => by cases hq) (.refl _) hval
 · have H := of_false H hb1
   refine W.skip ?_
   refine At.thenC ?_
   refine W.seq ?_
   obtain ⟨y2, hy3, H⟩ := of_bindO H
   refine W.region env [] [⟨.agg [.int .i64 (y2.Lo), .int .i64 (y2.Hi)], [], 0, []⟩] rfl rfl rfl .nil (.free (p1_h  _ hy3) .nil) (At.keep (ts := [4, 6]) (ids := [4, 6]) rfl rfl ?_)
   refine At.thenC ?_
   refine W.seq ?_
   refine W.rg env [4, 6, 17] [4, 6] ?_
   refine W.cond rfl (fun hb4 => ?_) (fun hb4 => ?_)
   · have H := of_true H hb4
     refine W.rg env [4, 5] [4] ?_
     refine W.ret ?_
     refine At.rthen ?_
     cases H
     exact At.ret env.ty rfl rfl (fun q hq => by cases hq) (.refl _) hval
   · have H := of_false H hb4
     refine W.skip ?_
     refine At.thenC ?_
     refine W.rg env [4, 5] [4] ?_
     refine W.ret ?_
     cases H
     exact At.ret env.ty rfl rfl (fun q hq => by cases hq) (.refl _) hval
theorem c_bylaw_window__fog (p0 : bylaw_window) (p1 : (List Int)) {r : Int} (H : bylaw_window__fog p0 p1 = some r) : Ctr Try.prog 80 [.agg [.int .i64 (p0.v.Source), .int .i64 (p0.v.Class), .int .i64 (p0.v.From), .int .i64 (p0.v.On.Lo), .int .i64 (p0.v.On.Hi), .int .i64 (p0.v.Off.Lo), .int .i64 (p0.v.Off.Hi), .int .i64 (p0.v.Moon), .int .i64 (p0.v.Fog), .int .i64 (p0.v.Known), .int .i64 (p0.v.Until), .int .i64 (p0.n.No), .int .i64 (p0.n.Set.Lo), .int .i64 (p0.n.Set.Hi), .int .i64 (p0.n.Rise.Lo), .int .i64 (p0.n.Rise.Hi), .int .i64 (p0.n.Light.Lo), .int .i64 (p0.n.Light.Hi), .int .i64 (p0.n.Fog)], roL 1 enc_Int p1] (.int .i64 (r)) := by
 unfold bylaw_window__fog at H
 refine Ctr.of_body (N := 22) Try.func80 (by kernel_rfl) (c := _) rfl Try.ntmps80 rfl (fun w0 h0 hval => ?_)
 refine W.rg env [1, 2] [2] ?_
 refine W.seq ?_
 refine W.rg env [2, 7, 8, 9] [2] ?_
 refine W.block ?_
 refine At.keep (ts := [2, 7, 8, 9]) (ids := [2]) rfl rfl ?_
 refine W.len (t := 7) rfl (fun (hn1 : p1.length ≤ maxLen) => ?_)
 refine W.rangeGo H (fun i1 (s1 : Unit) => [(2, .lp 2 0), (7, roL 1 enc_Int p1), (8, .int .i64 (((p1.length : Nat) : Int))), (9, .int .i64 ((i1 : Int)))]) (fun i1 (s1 : Unit) => [(2, .cells [.int .i64 (p0.v.Source), .int .i64 (p0.v.Class), .int .i64 (p0.v.From), .int .i64 (p0.v.On.Lo), .int .i64 (p0.v.On.Hi), .int .i64 (p0.v.Off.Lo), .int .i64 (p0.v.Off.Hi), .int .i64 (p0.v.Moon), .int .i64 (p0.v.Fog), .int .i64 (p0.v.Known), .int .i64 (p0.v.Until), .int .i64 (p0.n.No), .int .i64 (p0.n.Set.Lo), .int .i64 (p0.n.Set.Hi), .int .i64 (p0.n.Rise.Lo), .int .i64 (p0.n.Rise.Hi), .int .i64 (p0.n.Light.Lo), .int .i64 (p0.n.Light.Hi), .int .i64 (p0.n.Fog)])]) (.cons .q (.cons .q (.cons .qi (.cons .qi .nil)))) (.cons .q .nil) (fun k1 i1 s1 hle1 H1 H2 K0 hK1 => ?_)
 refine W.rg env [2, 7, 8, 9, 10] [2] ?_
 refine W.seq ?_
 refine W.cond rfl (fun hb2 => ?_) (fun hb2 => ?_)
 · have hi1 : i1 < p1.length := by have := of_decide_eq_true hb2; omega
   have H := H1 hi1
   refine W.skip ?_
   refine At.thenC ?_
   refine W.seq ?_
   refine W.block ?_
   refine W.sr env [] [] [2, 6, 7, 8, 9] [2] rfl rfl rfl (.cons (⟨by omega, by omega⟩ : 0 ≤ (i1 : Int) ∧ (i1 : Int) < ((p1.length : Nat) : Int)) .nil) .nil ?_
   refine W.rg env [2, 7, 8, 9, 17] [2] ?_
   refine W.cond rfl (fun hb3 => ?_) (fun hb3 => ?_)
   · have H := of_true H hb3
     refine W.rg env [4] [] ?_
     refine W.ret ?_
     refine At.rinb ?_
     refine At.rthen ?_
     refine At.rthen ?_
     refine At.rinb ?_
     refine At.rthen ?_
     cases H
     exact At.ret env.ty rfl rfl (fun q hq => by cases hq) (.refl _) hval
   · have H := of_false H hb3
     refine W.skip ?_
     refine At.inb ?_
     refine At.thenC ?_
     refine W.region env [] [] rfl rfl rfl (.cons (by unfold inI; have := hn1; (try unfold maxLen at this); omega) .nil) .nil (At.keep (ts := [2, 7, 8, 9]) (ids := [2]) rfl rfl ?_)
     refine At.thenK (At.keep (ts := [2, 7, 8, 9]) (ids := [2]) rfl rfl ?_)
     exact At.conv (.cons .q (.cons .q (.cons .qi (.cons .qi .nil)))) (.cons .q .nil) (hK1 hi1 () H)
 · have H := H2 (by have := of_decide_eq_false hb2; omega)
   refine W.exit ?_
   refine At.xthen ?_
   refine At.xthen ?_
   refine At.xhere ?_
   refine At.thenC ?_
   refine W.rg env [4] [] ?_
   refine W.ret ?_
   cases H
   exact At.ret env.ty rfl rfl (fun q hq => by cases hq) (.refl _) hval
theorem c_bylaw_clip (p0 : Int) (p1 : Int) : Ctr Try.prog 79 [.int .i64 (p0), .int .i64 (p1)] (.agg [.int .i64 ((bylaw_clip p0 p1).Lo), .int .i64 ((bylaw_clip p0 p1).Hi)]) := by
 obtain ⟨r, H⟩ : ∃ r, bylaw_clip p0 p1 = r := ⟨_, rfl⟩
 rw [H]
 unfold bylaw_clip at H
 refine Ctr.of_body (N := 10) Try.func79 (by kernel_rfl) (c := _) rfl Try.ntmps79 rfl (fun w0 h0 hval => ?_)
 refine W.rg env [0, 1, 4] [4] ?_
 refine W.rg env [4] [4] ?_
 refine W.ret ?_
 cases H
 exact At.ret env.ty rfl rfl (fun q hq => by cases hq) (.refl _) hval
theorem c_bylaw_window__on (p0 : bylaw_window) {r : Range} (H : bylaw_window__on p0 = some r) : Ctr Try.prog 62 [.agg [.int .i64 (p0.v.Source), .int .i64 (p0.v.Class), .int .i64 (p0.v.From), .int .i64 (p0.v.On.Lo), .int .i64 (p0.v.On.Hi), .int .i64 (p0.v.Off.Lo), .int .i64 (p0.v.Off.Hi), .int .i64 (p0.v.Moon), .int .i64 (p0.v.Fog), .int .i64 (p0.v.Known), .int .i64 (p0.v.Until), .int .i64 (p0.n.No), .int .i64 (p0.n.Set.Lo), .int .i64 (p0.n.Set.Hi), .int .i64 (p0.n.Rise.Lo), .int .i64 (p0.n.Rise.Hi), .int .i64 (p0.n.Light.Lo), .int .i64 (p0.n.Light.Hi), .int .i64 (p0.n.Fog)]] (.agg [.int .i64 (r.Lo), .int .i64 (r.Hi)]) := by
 unfold bylaw_window__on at H
 refine Ctr.of_body (N := 30) Try.func62 (by kernel_rfl) (c := _) rfl Try.ntmps62 rfl (fun w0 h0 hval => ?_)
 refine W.rg env [1, 2] [1, 2] ?_
 refine W.seq ?_
 obtain ⟨hc1, H⟩ := of_must H
 obtain ⟨y2, hy3, H⟩ := of_bindO H
 obtain ⟨hc4, H⟩ := of_must H
 obtain ⟨hc5, H⟩ := of_must H
 obtain ⟨y6, hy7, H⟩ := of_bindO H
 obtain ⟨hc8, H⟩ := of_must H
 refine W.region env [] [⟨.int .i64 (y2), [], 0, []⟩, ⟨.int .i64 (y6), [], 0, []⟩, ⟨.agg [.int .i64 ((bylaw_clip ((p0.n.Set.Hi + p0.v.On.Lo) - y2) ((p0.n.Set.Lo + p0.v.On.Hi) - y6)).Lo), .int .i64 ((bylaw_clip ((p0.n.Set.Hi + p0.v.On.Lo) - y2) ((p0.n.Set.Lo + p0.v.On.Hi) - y6)).Hi)], [], 0, []⟩] rfl rfl (by kernel_rfl) (.cons hc1 (.cons hc4 (.cons hc5 (.cons hc8 .nil)))) (.free (Ctr.sim (.cons (.refl _) (.cons (Sim.lit (f := enc_Int) ([1] : List Int) rfl rfl (fun _ => rfl)) .nil)) (c_bylaw_window__fog p0 ([1] : List Int) hy3)) (.free (Ctr.sim (.cons (.refl _) (.cons (Sim.lit (f := enc_Int) ([1, 2] : List Int) rfl rfl (fun _ => rfl)) .nil)) (c_bylaw_window__fog p0 ([1, 2] : List Int) hy7)) (.free (c_bylaw_clip ((p0.n.Set.Hi + p0.v.On.Lo) - y2) ((p0.n.Set.Lo + p0.v.On.Hi) - y6)) .nil))) (At.keep (ts := [2]) (ids := [2]) rfl rfl ?_)
 refine At.thenC ?_
 refine W.ret ?_
 cases H
 exact At.ret env.ty rfl rfl (fun q hq => by cases hq) (.refl _) hval
theorem c_bylaw_window__off (p0 : bylaw_window) {r : Range} (H : bylaw_window__off p0 = some r) : Ctr Try.prog 63 [.agg [.int .i64 (p0.v.Source), .int .i64 (p0.v.Class), .int .i64 (p0.v.From), .int .i64 (p0.v.On.Lo), .int .i64 (p0.v.On.Hi), .int .i64 (p0.v.Off.Lo), .int .i64 (p0.v.Off.Hi), .int .i64 (p0.v.Moon), .int .i64 (p0.v.Fog), .int .i64 (p0.v.Known), .int .i64 (p0.v.Until), .int .i64 (p0.n.No), .int .i64 (p0.n.Set.Lo), .int .i64 (p0.n.Set.Hi), .int .i64 (p0.n.Rise.Lo), .int .i64 (p0.n.Rise.Hi), .int .i64 (p0.n.Light.Lo), .int .i64 (p0.n.Light.Hi), .int .i64 (p0.n.Fog)]] (.agg [.int .i64 (r.Lo), .int .i64 (r.Hi)]) := by
 unfold bylaw_window__off at H
 refine Ctr.of_body (N := 22) Try.func63 (by kernel_rfl) (c := _) rfl Try.ntmps63 rfl (fun w0 h0 hval => ?_)
 refine W.rg env [1, 2] [1, 2] ?_
 obtain ⟨hc1, H⟩ := of_must H
 obtain ⟨hc2, H⟩ := of_must H
 refine W.sr env [] [⟨.agg [.int .i64 ((bylaw_clip (p0.n.Rise.Hi - p0.v.Off.Hi) (p0.n.Rise.Lo - p0.v.Off.Lo)).Lo), .int .i64 ((bylaw_clip (p0.n.Rise.Hi - p0.v.Off.Hi) (p0.n.Rise.Lo - p0.v.Off.Lo)).Hi)], [], 0, []⟩] [2] [2] rfl rfl rfl (.cons hc1 (.cons hc2 .nil)) (.free (c_bylaw_clip (p0.n.Rise.Hi - p0.v.Off.Hi) (p0.n.Rise.Lo - p0.v.Off.Lo)) .nil) ?_
 refine W.ret ?_
 cases H
 exact At.ret env.ty rfl rfl (fun q hq => by cases hq) (.refl _) hval
theorem c_bylaw_window__duty (p0 : bylaw_window) {r : (Duty × Int)} (H : bylaw_window__duty p0 = some r) : Ctr Try.prog 35 [.agg [.int .i64 (p0.v.Source), .int .i64 (p0.v.Class), .int .i64 (p0.v.From), .int .i64 (p0.v.On.Lo), .int .i64 (p0.v.On.Hi), .int .i64 (p0.v.Off.Lo), .int .i64 (p0.v.Off.Hi), .int .i64 (p0.v.Moon), .int .i64 (p0.v.Fog), .int .i64 (p0.v.Known), .int .i64 (p0.v.Until), .int .i64 (p0.n.No), .int .i64 (p0.n.Set.Lo), .int .i64 (p0.n.Set.Hi), .int .i64 (p0.n.Rise.Lo), .int .i64 (p0.n.Rise.Hi), .int .i64 (p0.n.Light.Lo), .int .i64 (p0.n.Light.Hi), .int .i64 (p0.n.Fog)]] (.tup [.agg [.int .i64 (r.1.Lit), .int .i64 (r.1.On.Lo), .int .i64 (r.1.On.Hi), .int .i64 (r.1.Off.Lo), .int .i64 (r.1.Off.Hi)], .int .i64 (r.2)]) := by
 unfold bylaw_window__duty at H
 refine Ctr.of_body (N := 39) Try.func35 (by kernel_rfl) (c := _) rfl Try.ntmps35 rfl (fun w0 h0 hval => ?_)
 refine W.rg env [1, 2] [1, 2] ?_
 refine W.sr env [] [⟨.int .i64 ((bylaw_window__lit p0)), [], 0, []⟩] [1, 2, 4] [1, 2] rfl rfl rfl .nil (.free (c_bylaw_window__lit p0) .nil) ?_
 refine W.seq ?_
 refine W.rg env [1, 2, 4, 11] [1, 2] ?_
 refine W.cond rfl (fun hb1 => ?_) (fun hb1 => ?_)
 · have H := of_true H hb1
   refine W.rg env [2, 3] [2] ?_
   refine W.ret ?_
   refine At.rthen ?_
   cases H
   exact At.ret env.ty rfl rfl (fun q hq => by cases hq) (.refl _) hval
 · have H := of_false H hb1
   refine W.skip ?_
   refine At.thenC ?_
   refine W.seq ?_
   obtain ⟨y2, hy3, H⟩ := of_bindO H
   refine W.region env [] [⟨.tup [.agg [.int .i64 (y2.1.Lo), .int .i64 (y2.1.Hi)], .int .i64 (y2.2)], [], 0, []⟩] rfl rfl rfl .nil (.free (c_bylaw_window__minutes p0 (bylaw_window__on p0) 62 ([.agg [.int .i64 (p0.v.Source), .int .i64 (p0.v.Class), .int .i64 (p0.v.From), .int .i64 (p0.v.On.Lo), .int .i64 (p0.v.On.Hi), .int .i64 (p0.v.Off.Lo), .int .i64 (p0.v.Off.Hi), .int .i64 (p0.v.Moon), .int .i64 (p0.v.Fog), .int .i64 (p0.v.Known), .int .i64 (p0.v.Until), .int .i64 (p0.n.No), .int .i64 (p0.n.Set.Lo), .int .i64 (p0.n.Set.Hi), .int .i64 (p0.n.Rise.Lo), .int .i64 (p0.n.Rise.Hi), .int .i64 (p0.n.Light.Lo), .int .i64 (p0.n.Light.Hi), .int .i64 (p0.n.Fog)]]) [] (fun  r h => c_bylaw_window__on p0 h) hy3) .nil) (At.keep (ts := [1, 2, 4, 5, 6]) (ids := [1, 2, 5]) rfl rfl ?_)
   refine At.thenC ?_
   refine W.seq ?_
   refine W.rg env [1, 2, 4, 5, 6, 21] [1, 2, 5] ?_
   refine W.cond rfl (fun hb4 => ?_) (fun hb4 => ?_)
   · have H := of_true H hb4
     refine W.rg env [2, 3] [2] ?_
     refine W.ret ?_
     refine At.rthen ?_
     cases H
     exact At.ret env.ty rfl rfl (fun q hq => by cases hq) (.refl _) hval
   · have H := of_false H hb4
     refine W.skip ?_
     refine At.thenC ?_
     refine W.seq ?_
     obtain ⟨y5, hy6, H⟩ := of_bindO H
     refine W.region env [] [⟨.tup [.agg [.int .i64 (y5.1.Lo), .int .i64 (y5.1.Hi)], .int .i64 (y5.2)], [], 0, []⟩] rfl rfl rfl .nil (.free (c_bylaw_window__minutes p0 (bylaw_window__off p0) 63 ([.agg [.int .i64 (p0.v.Source), .int .i64 (p0.v.Class), .int .i64 (p0.v.From), .int .i64 (p0.v.On.Lo), .int .i64 (p0.v.On.Hi), .int .i64 (p0.v.Off.Lo), .int .i64 (p0.v.Off.Hi), .int .i64 (p0.v.Moon), .int .i64 (p0.v.Fog), .int .i64 (p0.v.Known), .int .i64 (p0.v.Until), .int .i64 (p0.n.No), .int .i64 (p0.n.Set.Lo), .int .i64 (p0.n.Set.Hi), .int .i64 (p0.n.Rise.Lo), .int .i64 (p0.n.Rise.Hi), .int .i64 (p0.n.Light.Lo), .int .i64 (p0.n.Light.Hi), .int .i64 (p0.n.Fog)]]) [] (fun  r h => c_bylaw_window__off p0 h) hy6) .nil) (At.keep (ts := [2, 4, 5, 6, 7]) (ids := [2, 5, 7]) rfl rfl ?_)
     refine At.thenC ?_
     refine W.seq ?_
     refine W.rg env [2, 4, 5, 6, 7, 32] [2, 5, 7] ?_
     refine W.cond rfl (fun hb7 => ?_) (fun hb7 => ?_)
     · have H := of_true H hb7
       refine W.rg env [2, 3] [2] ?_
       refine W.ret ?_
       refine At.rthen ?_
       cases H
       exact At.ret env.ty rfl rfl (fun q hq => by cases hq) (.refl _) hval
     · have H := of_false H hb7
       refine W.skip ?_
       refine At.thenC ?_
       refine W.rg env [2, 3] [2] ?_
       refine W.ret ?_
       cases H
       exact At.ret env.ty rfl rfl (fun q hq => by cases hq) (.refl _) hval
theorem c_bylaw_Duty (p0 : Bylaw) (p1 : Int) (p2 : Night) (p3 : Int) {r : (Duty × Int)} (H : bylaw_Duty p0 p1 p2 p3 = some r) : Ctr Try.prog 14 [.agg [roL 11 enc_Version p0.Versions, roL 5 enc_Street p0.Streets], .int .i64 (p1), .agg [.int .i64 (p2.No), .int .i64 (p2.Set.Lo), .int .i64 (p2.Set.Hi), .int .i64 (p2.Rise.Lo), .int .i64 (p2.Rise.Hi), .int .i64 (p2.Light.Lo), .int .i64 (p2.Light.Hi), .int .i64 (p2.Fog)], .int .i64 (p3)] (.tup [.agg [.int .i64 (r.1.Lit), .int .i64 (r.1.On.Lo), .int .i64 (r.1.On.Hi), .int .i64 (r.1.Off.Lo), .int .i64 (r.1.Off.Hi)], .int .i64 (r.2)]) := by
 unfold bylaw_Duty at H
 refine Ctr.of_body (N := 28) Try.func14 (by kernel_rfl) (c := _) rfl Try.ntmps14 rfl (fun w0 h0 hval => ?_)
 refine W.rg env [1, 3, 4, 6, 8] [4, 6, 8] ?_
 refine W.seq ?_
 obtain ⟨y1, hy2, H⟩ := of_bindO H
 refine W.region env [] [⟨.tup [.agg [.int .i64 (y1.1.v.Source), .int .i64 (y1.1.v.Class), .int .i64 (y1.1.v.From), .int .i64 (y1.1.v.On.Lo), .int .i64 (y1.1.v.On.Hi), .int .i64 (y1.1.v.Off.Lo), .int .i64 (y1.1.v.Off.Hi), .int .i64 (y1.1.v.Moon), .int .i64 (y1.1.v.Fog), .int .i64 (y1.1.v.Known), .int .i64 (y1.1.v.Until), .int .i64 (y1.1.n.No), .int .i64 (y1.1.n.Set.Lo), .int .i64 (y1.1.n.Set.Hi), .int .i64 (y1.1.n.Rise.Lo), .int .i64 (y1.1.n.Rise.Hi), .int .i64 (y1.1.n.Light.Lo), .int .i64 (y1.1.n.Light.Hi), .int .i64 (y1.1.n.Fog)], .int .i64 (y1.2)], [], 0, []⟩] rfl rfl rfl .nil (.free (c_bylaw_look p0 p1 p2 p3 hy2) .nil) (At.keep (ts := [8, 10, 11]) (ids := [8, 10]) rfl rfl ?_)
 refine At.thenC ?_
 refine W.seq ?_
 refine W.rg env [8, 10, 11, 21] [8, 10] ?_
 refine W.cond rfl (fun hb3 => ?_) (fun hb3 => ?_)
 · have H := of_true H hb3
   refine W.rg env [8, 9] [8] ?_
   refine W.ret ?_
   refine At.rthen ?_
   cases H
   exact At.ret env.ty rfl rfl (fun q hq => by cases hq) (.refl _) hval
 · have H := of_false H hb3
   refine W.skip ?_
   refine At.thenC ?_
   refine W.seq ?_
   obtain ⟨y4, hy5, H⟩ := of_bindO H
   refine W.region env [] [⟨.tup [.agg [.int .i64 (y4.1.Lit), .int .i64 (y4.1.On.Lo), .int .i64 (y4.1.On.Hi), .int .i64 (y4.1.Off.Lo), .int .i64 (y4.1.Off.Hi)], .int .i64 (y4.2)], [], 0, []⟩] rfl rfl rfl .nil (.free (c_bylaw_window__duty y1.1 hy5) .nil) (At.keep (ts := [8, 9]) (ids := [8]) rfl rfl ?_)
   refine At.thenC ?_
   refine W.ret ?_
   cases H
   exact At.ret env.ty rfl rfl (fun q hq => by cases hq) (.refl _) hval
end Go.Sp
