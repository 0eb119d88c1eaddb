/- Printed by gen.py: contracts, part 2. -/
import Derived.Test.YtoekhnngdocddaaCtr1
set_option linter.all false
set_option maxRecDepth 100000
set_option maxHeartbeats 1000000
namespace Go.Sp
open Go Go.Av Go.Proofs
theorem c_fog_Clash (fuel : Nat) (p0 : (List Report)) (p1 : Int) (p2 : Int) (p3 : Int) {r : ((List Int) × Int)} (H : fog_Clash fuel p0 p1 p2 p3 = some r) : Ctr Try.prog 19 [roL 9 enc_Report p0, .int .i64 (p1), .int .i64 (p2), .int .i64 (p3)] (.tup [roL 1 enc_Int r.1, .int .i64 (r.2)]) := by
 unfold fog_Clash at H
 refine Ctr.of_body (N := 34) Try.func19 (by kernel_rfl) (c := _) rfl Try.ntmps19 rfl (fun w0 h0 hval => ?_)
 refine W.rg env [0, 1, 2, 3] [] ?_
 refine W.seq ?_
 obtain ⟨y1, hy2, H⟩ := of_bindO H
 refine W.region env [] [⟨.tup [roL 9 enc_Report y1.1, .int .i64 (y1.2)], [], 0, []⟩] rfl rfl rfl .nil (.free (c_fog_query__view fuel (⟨p1, p2, p3, 0, (⟨0, 0⟩ : Range), 1⟩ : fog_query) p0 hy2) .nil) (At.keep (ts := [10, 11]) (ids := []) rfl rfl ?_)
 refine At.thenC ?_
 refine W.seq ?_
 refine W.rg env [10, 11, 24] [] ?_
 refine W.cond rfl (fun hb3 => ?_) (fun hb3 => ?_)
 · have H := of_true H hb3
   refine W.rg env [8, 9] [] ?_
   refine W.ret ?_
   refine At.rthen ?_
   cases H
   exact At.ret env.ty rfl rfl (fun q hq => by cases hq) (Sim.tupL (.cons (Sim.nil _ _) (.cons (.refl _) .nil))) hval
 · have H := of_false H hb3
   refine W.skip ?_
   refine At.thenC ?_
   refine W.seq ?_
   obtain ⟨y4, hy5, H⟩ := of_bindO H
   refine W.region env [] [⟨.tup [roL 1 enc_Int y4.1, .bool (y4.2)], [], 0, []⟩] rfl rfl rfl .nil (.free (c_fog_view__pair y1.1 hy5) .nil) (At.keep (ts := [12, 13]) (ids := []) rfl rfl ?_)
   refine At.thenC ?_
   refine W.seq ?_
   refine W.rg env [12, 32] [] ?_
   refine W.cond rfl (fun hb6 => ?_) (fun hb6 => ?_)
   · have H := of_true H hb6
     refine W.rg env [8, 9] [] ?_
     refine W.ret ?_
     refine At.rthen ?_
     cases H
     exact At.ret env.ty rfl rfl (fun q hq => by cases hq) (Sim.tupL (.cons (Sim.nil _ _) (.cons (.refl _) .nil))) hval
   · have H := of_false H hb6
     refine W.skip ?_
     refine At.thenC ?_
     refine W.rg env [8, 9] [] ?_
     refine W.ret ?_
     cases H
     exact At.ret env.ty rfl rfl (fun q hq => by cases hq) (.refl _) hval
theorem c_fog_Worst (fuel : Nat) (p0 : (List Report)) (p1 : Int) (p2 : Int) (p3 : Range) (p4 : Int) {r : (Range × Int)} (H : fog_Worst fuel p0 p1 p2 p3 p4 = some r) : Ctr Try.prog 29 [roL 9 enc_Report p0, .int .i64 (p1), .int .i64 (p2), .agg [.int .i64 (p3.Lo), .int .i64 (p3.Hi)], .int .i64 (p4)] (.tup [.agg [.int .i64 (r.1.Lo), .int .i64 (r.1.Hi)], .int .i64 (r.2)]) := by
 unfold fog_Worst at H
 refine Ctr.of_body (N := 59) Try.func29 (by kernel_rfl) (c := _) rfl Try.ntmps29 rfl (fun w0 h0 hval => ?_)
 refine W.rg env [0, 1, 2, 4, 8, 10] [8, 10] ?_
 refine W.seq ?_
 obtain ⟨y1, hy2, H⟩ := of_bindO H
 refine W.region env [] [⟨.tup [roL 9 enc_Report y1.1, .int .i64 (y1.2)], [], 0, []⟩] rfl rfl rfl .nil (.free (c_fog_query__clear fuel (⟨p1, p2, p4, 0, p3, 1⟩ : fog_query) p0 hy2) .nil) (At.keep (ts := [8, 10, 12, 13]) (ids := [8, 10]) rfl rfl ?_)
 refine At.thenC ?_
 refine W.seq ?_
 refine W.rg env [8, 10, 12, 13, 28] [8, 10] ?_
 refine W.cond rfl (fun hb3 => ?_) (fun hb3 => ?_)
 · have H := of_true H hb3
   refine W.rg env [10, 11] [10] ?_
   refine W.ret ?_
   refine At.rthen ?_
   cases H
   exact At.ret env.ty rfl rfl (fun q hq => by cases hq) (.refl _) hval
 · have H := of_false H hb3
   refine W.skip ?_
   refine At.thenC ?_
   refine W.seq ?_
   obtain ⟨y4, hy5, H⟩ := of_bindO H
   refine W.region env [] [⟨.agg [.int .i64 (y4.Lo), .int .i64 (y4.Hi)], [], 0, []⟩] rfl rfl rfl .nil (.free (c_fog_view__sight y1.1 p3.Lo hy5) .nil) (At.keep (ts := [8, 10, 12, 14]) (ids := [8, 10, 14]) rfl rfl ?_)
   refine At.thenC ?_
   refine W.seq ?_
   obtain ⟨hc6, H⟩ := of_must H
   refine W.sr env [] [] [8, 10, 12, 14, 15] [8, 10, 14] rfl rfl rfl (.cons hc6 .nil) .nil ?_
   refine W.block ?_
   refine At.keep (ts := [8, 10, 12, 14, 15]) (ids := [8, 10, 14]) rfl rfl ?_
   refine W.loopGo H (fun (s7 : Int × Range) => [(8, .lp 8 0), (10, .lp 10 0), (12, roL 9 enc_Report y1.1), (14, .lp 14 0), (15, .int .i64 (s7.1))]) (fun (s7 : Int × Range) => [(8, .cells [.int .i64 (p3.Lo), .int .i64 (p3.Hi)]), (10, .cells [.int .i64 (0), .int .i64 (0)]), (14, .cells [.int .i64 (s7.2.Lo), .int .i64 (s7.2.Hi)])]) (.cons .q (.cons .q (.cons .q (.cons .q (.cons .qi .nil))))) (.cons .q (.cons .q (.cons .q .nil))) (fun k7 s7 H K0 hK7 => ?_)
   refine W.seq ?_
   refine W.rg env [8, 10, 12, 14, 15, 41] [8, 10, 14] ?_
   refine W.cond rfl (fun hb8 => ?_) (fun hb8 => ?_)
   · have H := of_true H hb8
     refine W.skip ?_
     refine At.thenC ?_
     refine W.seq ?_
     refine W.block ?_
     refine W.seq ?_
     obtain ⟨y9, hy10, H⟩ := of_bindO H
     refine W.region env [] [⟨.agg [.int .i64 (y9.Lo), .int .i64 (y9.Hi)], [], 0, []⟩] rfl rfl rfl .nil (.free (c_fog_view__sight y1.1 s7.1 hy10) .nil) (At.keep (ts := [8, 10, 12, 14, 15, 16]) (ids := [8, 10, 14, 16]) rfl rfl ?_)
     refine At.thenC ?_
     refine W.region env [] [] rfl rfl rfl .nil .nil (At.keep (ts := [8, 10, 12, 14, 15]) (ids := [8, 10, 14]) rfl rfl ?_)
     refine At.inb ?_
     refine At.thenC ?_
     obtain ⟨hc11, H⟩ := of_must H
     refine W.region env [] [] rfl rfl rfl (.cons hc11 .nil) .nil (At.keep (ts := [8, 10, 12, 14, 15]) (ids := [8, 10, 14]) rfl rfl ?_)
     refine At.thenK (At.keep (ts := [8, 10, 12, 14, 15]) (ids := [8, 10, 14]) rfl rfl ?_)
     exact At.conv (.cons .q (.cons .q (.cons .q (.cons .q (.cons .qi .nil))))) (.cons .q (.cons .q (.cons .q .nil))) (hK7 ((s7.1 + 1), (⟨(min s7.2.Lo y9.Lo), (min s7.2.Hi y9.Hi)⟩ : Range)) H)
   · have H := of_false H hb8
     refine W.exit ?_
     refine At.xthen ?_
     refine At.xthen ?_
     refine At.xhere ?_
     refine At.thenC ?_
     refine W.rg env [10, 11] [10] ?_
     refine W.ret ?_
     cases H
     exact At.ret env.ty rfl rfl (fun q hq => by cases hq) (.refl _) hval
theorem c_fog_asked (p0 : (List Node)) (p1 : (List Report)) (p2 : Int) (p3 : Int) {r : Int} (H : fog_asked p0 p1 p2 p3 = some r) : Ctr Try.prog 41 [roL 8 enc_Node p0, roL 9 enc_Report p1, .int .i64 (p2), .int .i64 (p3)] (.int .i64 (r)) := by
 unfold fog_asked at H
 refine Ctr.of_body (N := 26) Try.func41 (by kernel_rfl) (c := _) rfl Try.ntmps41 rfl (fun w0 h0 hval => ?_)
 refine W.rg env [0, 1, 2, 3] [] ?_
 refine W.seq ?_
 refine W.block ?_
 refine W.seq ?_
 obtain ⟨y1, hy2, H⟩ := of_bindO H
 refine W.region env [] [⟨.int .i64 (y1), [], 0, []⟩] rfl rfl rfl .nil (.free (c_fog_CheckPolicy p0 hy2) .nil) (At.keep (ts := [1, 2, 3, 9]) (ids := []) rfl rfl ?_)
 refine At.thenC ?_
 refine W.cond rfl (fun hb3 => ?_) (fun hb3 => ?_)
 · have H := of_true H hb3
   refine W.rg env [8] [] ?_
   refine W.ret ?_
   refine At.rinb ?_
   refine At.rthen ?_
   cases H
   exact At.ret env.ty rfl rfl (fun q hq => by cases hq) (.refl _) hval
 · have H := of_false H hb3
   refine W.seq ?_
   obtain ⟨y4, hy5, H⟩ := of_bindO H
   refine W.region env [] [⟨.int .i64 (y4), [], 0, []⟩] rfl rfl rfl .nil (.free (c_fog_Check p1 hy5) .nil) (At.keep (ts := [2, 3, 13]) (ids := []) rfl rfl ?_)
   refine At.thenC ?_
   refine W.cond rfl (fun hb6 => ?_) (fun hb6 => ?_)
   · have H := of_true H hb6
     refine W.rg env [8] [] ?_
     refine W.ret ?_
     refine At.rinb ?_
     refine At.rthen ?_
     cases H
     exact At.ret env.ty rfl rfl (fun q hq => by cases hq) (.refl _) hval
   · have H := of_false H hb6
     refine W.sr env [] [⟨.bool ((fog_isNight p2)), [], 0, []⟩, ⟨.bool ((fog_isMoment p3)), [], 0, []⟩] [17] [] rfl rfl rfl (.cons (fun h => h) (.cons (fun h => h) (.cons (fun h => by rw [h]; rfl) .nil))) (.free (c_fog_isNight p2) (.on (fun hW => c_fog_isMoment p3) .nil)) ?_
     refine W.cond rfl (fun hb7 => ?_) (fun hb7 => ?_)
     · have H := of_true H hb7
       refine W.rg env [8] [] ?_
       refine W.ret ?_
       refine At.rinb ?_
       refine At.rthen ?_
       cases H
       exact At.ret env.ty rfl rfl (fun q hq => by cases hq) (.refl _) hval
     · have H := of_false H hb7
       refine W.skip ?_
       refine At.inb ?_
       refine At.thenC ?_
       refine W.rg env [8] [] ?_
       refine W.ret ?_
       cases H
       exact At.ret env.ty rfl rfl (fun q hq => by cases hq) (.refl _) hval
theorem c_fog_moment (p0 : Int) (p1 : Int) {r : Int} (H : fog_moment p0 p1 = some r) : Ctr Try.prog 82 [.int .i64 (p0), .int .i64 (p1)] (.int .i64 (r)) := by
 unfold fog_moment at H
 refine Ctr.of_body (N := 9) Try.func82 (by kernel_rfl) (c := _) rfl Try.ntmps82 rfl (fun w0 h0 hval => ?_)
 refine W.rg env [0, 1] [] ?_
 obtain ⟨hc1, H⟩ := of_must H
 obtain ⟨hc2, H⟩ := of_must H
 refine W.sr env [] [] [4] [] rfl rfl rfl (.cons hc1 (.cons hc2 .nil)) .nil ?_
 refine W.ret ?_
 cases H
 exact At.ret env.ty rfl rfl (fun q hq => by cases hq) (.refl _) hval
theorem c_fog_tell (fuel : Nat) (p0 : Node) (p1 : (List Report)) (p2 : Int) (p3 : Int) {r : Int} (H : fog_tell fuel p0 p1 p2 p3 = some r) : Ctr Try.prog 81 [.agg [.bool (p0.Test), .int .i64 (p0.District), .int .i64 (p0.Minute), .int .i64 (p0.Limit), .int .i64 (p0.Yes), .int .i64 (p0.No), .int .i64 (p0.Maybe), roL 2 enc_Send p0.Sends], roL 9 enc_Report p1, .int .i64 (p2), .int .i64 (p3)] (.int .i64 (r)) := by
 unfold fog_tell at H
 refine Ctr.of_body (N := 31) Try.func81 (by kernel_rfl) (c := _) rfl Try.ntmps81 rfl (fun w0 h0 hval => ?_)
 refine W.rg env [1, 2, 3, 4] [4] ?_
 refine W.seq ?_
 obtain ⟨y1, hy2, H⟩ := of_bindO H
 refine W.region env [] [⟨roL 9 enc_Report y1, [], 0, []⟩] rfl rfl rfl .nil (.free (c_fog_see fuel p1 p0.District p2 p3 hy2) .nil) (At.keep (ts := [4, 9]) (ids := [4]) rfl rfl ?_)
 refine At.thenC ?_
 refine W.seq ?_
 refine W.seq ?_
 obtain ⟨y3, hy4, H⟩ := of_bindO H
 refine W.region env [] [⟨.tup [roL 1 enc_Int y3.1, .bool (y3.2)], [], 0, []⟩] rfl rfl rfl .nil (.free (c_fog_view__pair y1 hy4) .nil) (At.keep (ts := [4, 9, 11]) (ids := [4]) rfl rfl ?_)
 refine At.thenC ?_
 refine W.rg env [4, 9, 23] [4] ?_
 refine W.cond rfl (fun hb5 => ?_) (fun hb5 => ?_)
 · have H := of_true H hb5
   refine W.rg env [8] [] ?_
   refine W.ret ?_
   refine At.rthen ?_
   cases H
   exact At.ret env.ty rfl rfl (fun q hq => by cases hq) (.refl _) hval
 · have H := of_false H hb5
   refine W.skip ?_
   refine At.thenC ?_
   refine W.seq ?_
   obtain ⟨y6, hy7, H⟩ := of_bindO H
   refine W.region env [] [⟨.agg [.int .i64 (y6.Lo), .int .i64 (y6.Hi)], [], 0, []⟩, ⟨.int .i64 ((fog_below y6 p0.Limit)), [], 0, []⟩] rfl rfl (by kernel_rfl) .nil (.free (c_fog_view__sight y1 p0.Minute hy7) (.free (c_fog_below y6 p0.Limit) .nil)) (At.keep (ts := [8]) (ids := []) rfl rfl ?_)
   refine At.thenC ?_
   refine W.ret ?_
   cases H
   exact At.ret env.ty rfl rfl (fun q hq => by cases hq) (.refl _) hval
theorem c_fog_path (fuel : Nat) (p0 : (List Node)) (p1 : (List Report)) (p2 : Int) {r : (List Int)} (H : fog_path fuel p0 p1 p2 = some r) : Ctr Try.prog 42 [roL 8 enc_Node p0, roL 9 enc_Report p1, .int .i64 (p2)] (roL 1 enc_Int r) := by
 unfold fog_path at H
 refine Ctr.of_body (N := 40) Try.func42 (by kernel_rfl) (c := _) rfl Try.ntmps42 rfl (fun w0 h0 hval => ?_)
 refine W.rg env [0, 1, 2] [] ?_
 refine W.seq ?_
 refine W.region env [9] [] rfl rfl rfl .nil .nil (At.keep (ts := [0, 1, 2, 7]) (ids := [9]) rfl rfl ?_)
 refine At.convM (.cons (y := bufL 3 1 enc_Int ([0] : List Int)) (BSim.seg (Seg.lit (f := enc_Int) (sz := 1) ([0] : List Int) rfl rfl (fun _ => rfl))) .nil) ?_
 refine At.thenC ?_
 refine W.seq ?_
 refine W.rg env [0, 1, 2, 7, 8] [9] ?_
 refine W.block ?_
 refine At.keep (ts := [0, 1, 2, 7, 8]) (ids := [9]) rfl rfl ?_
 refine W.loopGo H (fun (s1 : Int × (List Int)) => [(0, roL 8 enc_Node p0), (1, roL 9 enc_Report p1), (2, .int .i64 (p2)), (7, .buf 9 (s1.2).length), (8, .int .i64 (s1.1))]) (fun (s1 : Int × (List Int)) => [(9, bufL 3 1 enc_Int s1.2)]) (.cons .q (.cons .q (.cons .qi (.cons .qb (.cons .qi .nil))))) (.cons .q .nil) (fun k1 s1 H K0 hK1 => ?_)
 refine W.seq ?_
 obtain ⟨hc2, H⟩ := of_must H
 refine W.sr env [] [] [0, 1, 2, 7, 8, 14] [9] rfl rfl rfl (.cons hc2 .nil) .nil ?_
 refine W.cond rfl (fun hb3 => ?_) (fun hb3 => ?_)
 · have H := of_true H hb3
   refine W.skip ?_
   refine At.thenC ?_
   refine W.seq ?_
   refine W.block ?_
   obtain ⟨hc4, H⟩ := of_must H
   obtain ⟨hc5, H⟩ := of_must H
   obtain ⟨hc6, H⟩ := of_must H
   obtain ⟨y7, hy8, H⟩ := of_bindO H
   obtain ⟨y9, hy10, H⟩ := of_bindO H
   refine W.region env [] [⟨romL (.int .i64 0) (fun (x : Int) => .int .i64 (x)) (fog_next (p0.getD (s1.1).toNat default)), [], 0, []⟩, ⟨.int .i64 (y7), [], 0, []⟩, ⟨.int .i64 (y9), [], 0, []⟩] rfl rfl (by kernel_rfl) (.cons hc4 (.cons hc5 (.cons hc6 (.cons rfl .nil)))) (.free (c_fog_next (p0.getD (s1.1).toNat default)) (.free (c_fog_moment p2 ((p0.getD (s1.1).toNat default).Minute) hy8) (.free (c_fog_tell fuel (p0.getD (s1.1).toNat default) p1 p2 y7 hy10) .nil))) (At.keep (ts := [0, 1, 2, 7, 8]) (ids := [9]) rfl rfl ?_)
   refine At.inb ?_
   refine At.thenC ?_
   obtain ⟨hc11, H⟩ := of_must H
   refine W.region env [] [] rfl rfl rfl (.cons (⟨by first | rfl | (simp; done) | omega | (simp; omega), by have := hc11; first | simpa using this | (unfold room at this ⊢; simp at this ⊢; omega)⟩) .nil) .nil (At.keep (ts := [0, 1, 2, 7, 8]) (ids := [9]) rfl rfl ?_)
   refine At.convM (.cons (y := bufL 3 1 enc_Int (s1.2 ++ ([(((fog_next (p0.getD (s1.1).toNat default)).get y9).getD default)] : List Int))) (BSim.seg (Seg.push (Seg.refl enc_Int _) (Seg.lit (f := enc_Int) (sz := 1) ([(((fog_next (p0.getD (s1.1).toNat default)).get y9).getD default)] : List Int) rfl rfl (fun _ => rfl)))) .nil) ?_
   refine At.thenK (At.keep (ts := [0, 1, 2, 7, 8]) (ids := [9]) rfl rfl ?_)
   exact At.conv (.cons .q (.cons .q (.cons .qi (.cons .qb (.cons .qi .nil))))) (.cons .q .nil) (hK1 ((((fog_next (p0.getD (s1.1).toNat default)).get y9).getD default), (s1.2 ++ ([(((fog_next (p0.getD (s1.1).toNat default)).get y9).getD default)] : List Int))) H)
 · have H := of_false H hb3
   refine W.exit ?_
   refine At.xthen ?_
   refine At.xthen ?_
   refine At.xhere ?_
   refine At.thenC ?_
   refine W.rg env [6] [9] ?_
   refine W.ret ?_
   cases H
   exact At.ret env.ty rfl rfl (fun q hq => by cases hq; exact (by first | rfl | (simp; done) | omega | (simp; omega))) (.refl _) hval
theorem c_fog_Path (fuel : Nat) (p0 : (List Node)) (p1 : (List Report)) (p2 : Int) {r : ((List Int) × Int)} (H : fog_Path fuel p0 p1 p2 = some r) : Ctr Try.prog 12 [roL 8 enc_Node p0, roL 9 enc_Report p1, .int .i64 (p2)] (.tup [roL 1 enc_Int r.1, .int .i64 (r.2)]) := by
 unfold fog_Path at H
 refine Ctr.of_body (N := 20) Try.func12 (by kernel_rfl) (c := _) rfl Try.ntmps12 rfl (fun w0 h0 hval => ?_)
 refine W.rg env [0, 1, 2] [] ?_
 refine W.seq ?_
 refine W.seq ?_
 obtain ⟨y1, hy2, H⟩ := of_bindO H
 refine W.region env [] [⟨.int .i64 (y1), [], 0, []⟩] rfl rfl rfl .nil (.free (c_fog_asked p0 p1 p2 0 hy2) .nil) (At.keep (ts := [0, 1, 2, 8]) (ids := []) rfl rfl ?_)
 refine At.thenC ?_
 refine W.rg env [0, 1, 2, 8, 14] [] ?_
 refine W.cond rfl (fun hb3 => ?_) (fun hb3 => ?_)
 · have H := of_true H hb3
   refine W.rg env [6, 7] [] ?_
   refine W.ret ?_
   refine At.rthen ?_
   cases H
   exact At.ret env.ty rfl rfl (fun q hq => by cases hq) (Sim.tupL (.cons (Sim.nil _ _) (.cons (.refl _) .nil))) hval
 · have H := of_false H hb3
   refine W.skip ?_
   refine At.thenC ?_
   refine W.seq ?_
   obtain ⟨y4, hy5, H⟩ := of_bindO H
   refine W.region env [] [⟨roL 1 enc_Int y4, [], 0, []⟩] rfl rfl rfl .nil (.free (c_fog_path fuel p0 p1 p2 hy5) .nil) (At.keep (ts := [6, 7]) (ids := []) rfl rfl ?_)
   refine At.thenC ?_
   refine W.ret ?_
   cases H
   exact At.ret env.ty rfl rfl (fun q hq => by cases hq) (.refl _) hval
theorem cl_fog_possible_1_l (fuel : Nat) : ∀ (n : Nat) (p0 : Int) (c0 : (List Node)) (c1 : (List Int)) (c2 : Int) (c3 : (List Report)) (c4 : Int) {r : (List Int)} (H : fog_possible_1_l fuel n p0 c0 c1 c2 c3 c4 = some r), CtrO Try.prog 92 [.int .i64 (p0), .lp 90000 0, .lp 90001 0, .lp 90003 0, .lp 90004 0, .lp 90005 0, .lp 90006 0] [(90000, .cells [roL 8 enc_Node c0]), (90001, .cells [.buf 90002 (c1).length]), (90002, bufL 3 1 enc_Int c1), (90003, .cells [.int .i64 (c2)]), (90004, .cells [roL 9 enc_Report c3]), (90005, .cells [.int .i64 (c4)]), (90006, .cells [.fn (.func 92) [] [.lp 90000 0, .lp 90001 0, .lp 90003 0, .lp 90004 0, .lp 90005 0, .lp 90006 0]])] (.tup []) [(90000, .cells [roL 8 enc_Node c0]), (90001, .cells [.buf 90002 (r).length]), (90002, bufL 3 1 enc_Int r), (90003, .cells [.int .i64 (c2)]), (90004, .cells [roL 9 enc_Report c3]), (90005, .cells [.int .i64 (c4)]), (90006, .cells [.fn (.func 92) [] [.lp 90000 0, .lp 90001 0, .lp 90003 0, .lp 90004 0, .lp 90005 0, .lp 90006 0]])] := by
 intro n; induction n with
 | zero => intro p0 c0 c1 c2 c3 c4 r H; cases H
 | succ n ih =>
   intro p0 c0 c1 c2 c3 c4 r H
   have H : fog_possible_1_l_F fuel (fog_possible_1_l fuel n) p0 c0 c1 c2 c3 c4 = some r := H
   unfold fog_possible_1_l_F at H
   refine CtrL.of_body (N := 64) Try.func92 (by kernel_rfl) (c := _) rfl Try.ntmps92 rfl rfl (fun w0 h0 ρb hval hdom hent => ?_)
   obtain ⟨hc1, H⟩ := of_must H
   refine W.sr env [] [] [0, 2, 3, 4, 5, 6, 8] [8, 90000, 90001, 90002, 90003, 90004, 90005, 90006] rfl rfl rfl (.cons hc1 .nil) .nil ?_
   refine W.seq ?_
   refine W.rg env [0, 2, 3, 4, 5, 6, 8, 19] [8, 90000, 90001, 90002, 90003, 90004, 90005, 90006] ?_
   refine W.cond rfl (fun hb2 => ?_) (fun hb2 => ?_)
   · have H := of_true H hb2
     refine W.seq ?_
     obtain ⟨hc3, H⟩ := of_must H
     refine W.region env [] [] rfl rfl rfl (.cons (⟨by first | rfl | (simp; done) | omega | (simp; omega), by have := hc3; first | simpa using this | (unfold room at this ⊢; simp at this ⊢; omega)⟩) .nil) .nil (At.keep (ts := []) (ids := [90000, 90001, 90002, 90003, 90004, 90005, 90006]) rfl rfl ?_)
     refine At.convM (.cons (.refl _) (.cons (.refl _) (.cons (y := bufL 3 1 enc_Int (c1 ++ ([p0] : List Int))) (BSim.seg (Seg.push (Seg.refl enc_Int _) (Seg.lit (f := enc_Int) (sz := 1) ([p0] : List Int) rfl rfl (fun _ => rfl)))) (.cons (.refl _) (.cons (.refl _) (.cons (.refl _) (.cons (.refl _) .nil))))))) ?_
     refine At.thenC ?_
     refine W.ret ?_
     refine At.rthen ?_
     cases H
     exact At.retL env.ty [90000, 90001, 90002, 90003, 90004, 90005, 90006] rfl rfl rfl rfl (.cons (.refl _) (.cons (BSim.cells (.cons .qc .nil)) (.cons (.refl _) (.cons (.refl _) (.cons (.refl _) (.cons (.refl _) (.cons (.refl _) .nil))))))) (.refl _) hval hdom hent rfl rfl
   · have H := of_false H hb2
     refine W.skip ?_
     refine At.thenC ?_
     refine W.seq ?_
     obtain ⟨y4, hy5, H⟩ := of_bindO H
     refine W.region env [] [⟨.int .i64 (y4), [], 0, []⟩] rfl rfl rfl .nil (.free (c_fog_moment c2 ((c0.getD (p0).toNat default).Minute) hy5) .nil) (At.keep (ts := [3, 4, 5, 6, 8, 9]) (ids := [8, 90000, 90001, 90002, 90003, 90004, 90005, 90006]) rfl rfl ?_)
     refine At.thenC ?_
     refine W.seq ?_
     obtain ⟨y6, hy7, H⟩ := of_bindO H
     refine W.region env [] [⟨.int .i64 (y6), [], 0, []⟩] rfl rfl rfl .nil (.free (c_fog_tell fuel (c0.getD (p0).toNat default) c3 c2 (min y4 c4) hy7) .nil) (At.keep (ts := [5, 6, 8, 9, 10]) (ids := [8, 90000, 90001, 90002, 90003, 90004, 90005, 90006]) rfl rfl ?_)
     refine At.thenC ?_
     refine W.seq ?_
     refine W.sr env [] [] [6, 8, 10, 41] [8, 90000, 90001, 90002, 90003, 90004, 90005, 90006] rfl rfl rfl (.cons (fun h => h) (.cons (fun h => h) .nil)) .nil ?_
     refine W.cond rfl (fun hb8 => ?_) (fun hb8 => ?_)
     · have H := of_true H hb8
       refine W.seq ?_
       refine W.seq ?_
       refine W.region env [] [] rfl rfl rfl .nil .nil (At.keep (ts := [6, 48, 49, 50]) (ids := [90000, 90001, 90002, 90003, 90004, 90005, 90006]) rfl rfl ?_)
       refine At.slot (t := 48) (v := roL 1 enc_Int ([(c0.getD (p0).toNat default).Yes, (c0.getD (p0).toNat default).No, (c0.getD (p0).toNat default).Maybe] : List Int)) (Sim.lit (f := enc_Int) ([(c0.getD (p0).toNat default).Yes, (c0.getD (p0).toNat default).No, (c0.getD (p0).toNat default).Maybe] : List Int) rfl rfl (fun _ => rfl)) ?_
       refine At.thenC ?_
       refine W.block ?_
       refine At.keep (ts := [6, 48, 49, 50]) (ids := [90000, 90001, 90002, 90003, 90004, 90005, 90006]) rfl rfl ?_
       refine W.len (t := 48) rfl (fun (hn9 : ([(c0.getD (p0).toNat default).Yes, (c0.getD (p0).toNat default).No, (c0.getD (p0).toNat default).Maybe] : List Int).length ≤ maxLen) => ?_)
       refine W.rangeGo H (fun i9 (s9 : (List Int)) => [(6, .lp 90006 0), (48, roL 1 enc_Int ([(c0.getD (p0).toNat default).Yes, (c0.getD (p0).toNat default).No, (c0.getD (p0).toNat default).Maybe] : List Int)), (49, .int .i64 (((([(c0.getD (p0).toNat default).Yes, (c0.getD (p0).toNat default).No, (c0.getD (p0).toNat default).Maybe] : List Int).length : Nat) : Int))), (50, .int .i64 ((i9 : Int)))]) (fun i9 (s9 : (List Int)) => [(90000, .cells [roL 8 enc_Node c0]), (90001, .cells [.buf 90002 (s9).length]), (90002, bufL 3 1 enc_Int s9), (90003, .cells [.int .i64 (c2)]), (90004, .cells [roL 9 enc_Report c3]), (90005, .cells [.int .i64 (c4)]), (90006, .cells [.fn (.func 92) [] [.lp 90000 0, .lp 90001 0, .lp 90003 0, .lp 90004 0, .lp 90005 0, .lp 90006 0]])]) (.cons .q (.cons .q (.cons .qi (.cons .qi .nil)))) (.cons .q (.cons (BSim.cells (.cons .qc .nil)) (.cons .q (.cons .q (.cons .q (.cons .q (.cons .q .nil))))))) (fun k9 i9 s9 hle9 H1 H2 K0 hK9 => ?_)
       refine W.rg env [6, 48, 49, 50, 51] [90000, 90001, 90002, 90003, 90004, 90005, 90006] ?_
       refine W.seq ?_
       refine W.cond rfl (fun hb10 => ?_) (fun hb10 => ?_)
       · have hi9 : i9 < ([(c0.getD (p0).toNat default).Yes, (c0.getD (p0).toNat default).No, (c0.getD (p0).toNat default).Maybe] : List Int).length := by have := of_decide_eq_true hb10; omega
         have H := H1 hi9
         refine W.skip ?_
         refine At.thenC ?_
         refine W.seq ?_
         refine W.block ?_
         refine W.sr env [] [] [6, 12, 48, 49, 50] [90000, 90001, 90002, 90003, 90004, 90005, 90006] rfl rfl rfl (.cons (⟨by omega, by omega⟩ : 0 ≤ (i9 : Int) ∧ (i9 : Int) < ((([(c0.getD (p0).toNat default).Yes, (c0.getD (p0).toNat default).No, (c0.getD (p0).toNat default).Maybe] : List Int).length : Nat) : Int)) .nil) .nil ?_
         obtain ⟨y11, hy12, H⟩ := of_bindO H
         refine W.region env [] [⟨.tup [], [(90000, .cells [roL 8 enc_Node c0]), (90001, .cells [.buf 90002 (y11).length]), (90002, bufL 3 1 enc_Int y11), (90003, .cells [.int .i64 (c2)]), (90004, .cells [roL 9 enc_Report c3]), (90005, .cells [.int .i64 (c4)]), (90006, .cells [.fn (.func 92) [] [.lp 90000 0, .lp 90001 0, .lp 90003 0, .lp 90004 0, .lp 90005 0, .lp 90006 0]])], 0, [90000, 90001, 90002, 90003, 90004, 90005, 90006]⟩] rfl rfl (by kernel_rfl) .nil (.free (CtrO.sim (CtrO.ren (ih (([(c0.getD (p0).toNat default).Yes, (c0.getD (p0).toNat default).No, (c0.getD (p0).toNat default).Maybe] : List Int).getD i9 default) c0 s9 c2 c3 c4 hy12) [(90000, 90000), (90001, 90001), (90002, 90002), (90003, 90003), (90004, 90004), (90005, 90005), (90006, 90006)]) (.cons (.refl _) (.cons (.refl _) (.cons (.refl _) (.cons (.refl _) (.cons (.refl _) (.cons (.refl _) (.cons (.refl _) .nil))))))) (.cons (.refl _) (.cons (BSim.cells (.cons .qc .nil)) (.cons (.refl _) (.cons (.refl _) (.cons (.refl _) (.cons (.refl _) (.cons (.refl _) .nil)))))))) .nil) (At.keep (ts := [6, 48, 49, 50]) (ids := [90000, 90001, 90002, 90003, 90004, 90005, 90006]) rfl rfl ?_)
         refine At.inb ?_
         refine At.thenC ?_
         refine W.region env [] [] rfl rfl rfl (.cons (by unfold inI; have := hn9; (try unfold maxLen at this); omega) .nil) .nil (At.keep (ts := [6, 48, 49, 50]) (ids := [90000, 90001, 90002, 90003, 90004, 90005, 90006]) rfl rfl ?_)
         refine At.thenK (At.keep (ts := [6, 48, 49, 50]) (ids := [90000, 90001, 90002, 90003, 90004, 90005, 90006]) rfl rfl ?_)
         exact At.conv (.cons .q (.cons .q (.cons .qi (.cons .qi .nil)))) (.cons .q (.cons (BSim.cells (.cons .qc .nil)) (.cons .q (.cons .q (.cons .q (.cons .q (.cons .q .nil))))))) (hK9 hi9 y11 H)
       · have H := H2 (by have := of_decide_eq_false hb10; omega)
         refine W.exit ?_
         refine At.xthen ?_
         refine At.xthen ?_
         refine At.xhere ?_
         refine At.thenC ?_
         refine W.ret ?_
         refine At.rthen ?_
         cases H
         exact At.retL env.ty [90000, 90001, 90002, 90003, 90004, 90005, 90006] rfl rfl rfl rfl (.cons (.refl _) (.cons (BSim.cells (.cons .qc .nil)) (.cons (.refl _) (.cons (.refl _) (.cons (.refl _) (.cons (.refl _) (.cons (.refl _) .nil))))))) (.refl _) hval hdom hent rfl rfl
     · have H := of_false H hb8
       refine W.skip ?_
       refine At.thenC ?_
       obtain ⟨y13, hy14, H⟩ := of_bindO H
       refine W.region env [] [⟨romL (.int .i64 0) (fun (x : Int) => .int .i64 (x)) (fog_next (c0.getD (p0).toNat default)), [], 0, []⟩, ⟨.tup [], [(90000, .cells [roL 8 enc_Node c0]), (90001, .cells [.buf 90002 (y13).length]), (90002, bufL 3 1 enc_Int y13), (90003, .cells [.int .i64 (c2)]), (90004, .cells [roL 9 enc_Report c3]), (90005, .cells [.int .i64 (c4)]), (90006, .cells [.fn (.func 92) [] [.lp 90000 0, .lp 90001 0, .lp 90003 0, .lp 90004 0, .lp 90005 0, .lp 90006 0]])], 0, [90000, 90001, 90002, 90003, 90004, 90005, 90006]⟩] rfl rfl (by kernel_rfl) (.cons rfl .nil) (.free (c_fog_next (c0.getD (p0).toNat default)) (.free (CtrO.sim (CtrO.ren (ih (((fog_next (c0.getD (p0).toNat default)).get y6).getD default) c0 c1 c2 c3 c4 hy14) [(90000, 90000), (90001, 90001), (90002, 90002), (90003, 90003), (90004, 90004), (90005, 90005), (90006, 90006)]) (.cons (.refl _) (.cons (.refl _) (.cons (.refl _) (.cons (.refl _) (.cons (.refl _) (.cons (.refl _) (.cons (.refl _) .nil))))))) (.cons (.refl _) (.cons (BSim.cells (.cons .qc .nil)) (.cons (.refl _) (.cons (.refl _) (.cons (.refl _) (.cons (.refl _) (.cons (.refl _) .nil)))))))) .nil)) (At.keep (ts := []) (ids := [90000, 90001, 90002, 90003, 90004, 90005, 90006]) rfl rfl ?_)
       refine At.oofNormal ?_
       cases H
       exact At.retL env.ty [90000, 90001, 90002, 90003, 90004, 90005, 90006] rfl rfl rfl rfl (.cons (.refl _) (.cons (BSim.cells (.cons .qc .nil)) (.cons (.refl _) (.cons (.refl _) (.cons (.refl _) (.cons (.refl _) (.cons (.refl _) .nil))))))) (.refl _) hval hdom hent rfl rfl
theorem cl_slices_Sort_int (p0 : List Int) {r : List Int} (H : slices_Sort_int_l p0 = some r) : CtrO Try.prog 93 [.buf 90000 p0.length] [(90000, bufL 3 1 enc_Int p0)] (.tup []) [(90000, bufL 3 1 enc_Int r)] :=
 sort_ctr (Go.Av.enters_of Try.func93 (by kernel_rfl) (c := _) rfl) (Any.slices_Sort_int sort_lays) (Any.slices_Sort_int_none sort_lays) 3 p0 H
theorem c_fog_possible (fuel : Nat) (p0 : (List Node)) (p1 : (List Report)) (p2 : Int) (p3 : Int) {r : (List Int)} (H : fog_possible fuel p0 p1 p2 p3 = some r) : Ctr Try.prog 58 [roL 8 enc_Node p0, roL 9 enc_Report p1, .int .i64 (p2), .int .i64 (p3)] (roL 1 enc_Int r) := by
 unfold fog_possible at H
 refine Ctr.of_body (N := 17) Try.func58 (by kernel_rfl) (c := _) rfl Try.ntmps58 rfl (fun w0 h0 hval => ?_)
 refine W.rg env [4, 5, 6, 7] [4, 5, 6, 7] ?_
 refine W.rg env [4, 5, 6, 7, 9] [4, 5, 6, 7, 9] ?_
 refine W.rg env [4, 5, 6, 7, 9, 10] [4, 5, 6, 7, 9, 10] ?_
 refine W.rg env [9, 10] [4, 5, 6, 7, 9, 10] ?_
 refine W.seq ?_
 refine At.nilOwnCell 9 0 1050 3 1 (e := fun i => enc_Int (([] : List Int).getD i default)) rfl rfl rfl ?_
 obtain ⟨y1, hy2, H⟩ := of_bindO H
 refine W.region env [] [⟨.tup [], [(4, .cells [roL 8 enc_Node p0]), (9, .cells [.buf 1050 (y1).length]), (1050, bufL 3 1 enc_Int y1), (6, .cells [.int .i64 (p2)]), (5, .cells [roL 9 enc_Report p1]), (7, .cells [.int .i64 (p3)]), (10, .cells [.fn (.func 92) [] [.lp 4 0, .lp 9 0, .lp 6 0, .lp 5 0, .lp 7 0, .lp 10 0]])], 0, [4, 9, 1050, 6, 5, 7, 10]⟩] rfl rfl (by kernel_rfl) .nil (.free (CtrO.sim (CtrO.ren (cl_fog_possible_1_l fuel fuel 0 p0 ([] : List Int) p2 p1 p3 hy2) [(90000, 4), (90001, 9), (90002, 1050), (90003, 6), (90004, 5), (90005, 7), (90006, 10)]) (.cons (.refl _) (.cons (.refl _) (.cons (.refl _) (.cons (.refl _) (.cons (.refl _) (.cons (.refl _) (.cons (.refl _) .nil))))))) (.cons (.refl _) (.cons (BSim.cells (.cons .qc .nil)) (.cons (.refl _) (.cons (.refl _) (.cons (.refl _) (.cons (.refl _) (.cons (.refl _) .nil)))))))) .nil) (At.keep (ts := [9]) (ids := [9, 1050]) rfl rfl ?_)
 refine At.thenC ?_
 refine W.seq ?_
 obtain ⟨y3, hy4, H⟩ := of_bindO H
 obtain ⟨hc5, H⟩ := of_must H
 refine W.region env [] [⟨.tup [], [(1050, bufL 3 1 enc_Int y3)], 0, [1050]⟩] rfl rfl (by kernel_rfl) .nil (.free (CtrO.sim (CtrO.ren (cl_slices_Sort_int y1 hy4) [(90000, 1050)]) (.cons .qc .nil) (.cons (.refl _) .nil)) .nil) (At.keep (ts := [9]) (ids := [9, 1050]) rfl rfl ?_)
 refine At.thenC ?_
 refine W.rg env [8] [1050] ?_
 refine W.ret ?_
 cases H
 exact At.ret env.ty rfl rfl (fun q hq => by cases hq; exact (by first | rfl | (simp; done) | omega | (simp; omega))) (.refl _) hval
theorem c_fog_Possible (fuel : Nat) (p0 : (List Node)) (p1 : (List Report)) (p2 : Int) (p3 : Int) {r : ((List Int) × Int)} (H : fog_Possible fuel p0 p1 p2 p3 = some r) : Ctr Try.prog 23 [roL 8 enc_Node p0, roL 9 enc_Report p1, .int .i64 (p2), .int .i64 (p3)] (.tup [roL 1 enc_Int r.1, .int .i64 (r.2)]) := by
 unfold fog_Possible at H
 refine Ctr.of_body (N := 24) Try.func23 (by kernel_rfl) (c := _) rfl Try.ntmps23 rfl (fun w0 h0 hval => ?_)
 refine W.rg env [0, 1, 2, 3] [] ?_
 refine W.seq ?_
 refine W.seq ?_
 obtain ⟨y1, hy2, H⟩ := of_bindO H
 refine W.region env [] [⟨.int .i64 (y1), [], 0, []⟩] rfl rfl rfl .nil (.free (c_fog_asked p0 p1 p2 p3 hy2) .nil) (At.keep (ts := [0, 1, 2, 3, 10]) (ids := []) rfl rfl ?_)
 refine At.thenC ?_
 refine W.rg env [0, 1, 2, 3, 10, 17] [] ?_
 refine W.cond rfl (fun hb3 => ?_) (fun hb3 => ?_)
 · have H := of_true H hb3
   refine W.rg env [8, 9] [] ?_
   refine W.ret ?_
   refine At.rthen ?_
   cases H
   exact At.ret env.ty rfl rfl (fun q hq => by cases hq) (Sim.tupL (.cons (Sim.nil _ _) (.cons (.refl _) .nil))) hval
 · have H := of_false H hb3
   refine W.skip ?_
   refine At.thenC ?_
   refine W.seq ?_
   obtain ⟨y4, hy5, H⟩ := of_bindO H
   refine W.region env [] [⟨roL 1 enc_Int y4, [], 0, []⟩] rfl rfl rfl .nil (.free (c_fog_possible fuel p0 p1 p2 p3 hy5) .nil) (At.keep (ts := [8, 9]) (ids := []) rfl rfl ?_)
   refine At.thenC ?_
   refine W.ret ?_
   cases H
   exact At.ret env.ty rfl rfl (fun q hq => by cases hq) (.refl _) hval
theorem c_fog_Moved_1 (p0 : Report) (c0 : Int) : Ctr Try.prog 47 [.agg [.int .i64 (p0.Source), .int .i64 (p0.District), .int .i64 (p0.Night), .int .i64 (p0.From), .int .i64 (p0.To), .int .i64 (p0.Sight.Lo), .int .i64 (p0.Sight.Hi), .int .i64 (p0.Known), .int .i64 (p0.Until)], .rp [.int .i64 (c0)]] (.bool ((fog_Moved_1 p0 c0))) := by
 obtain ⟨r, H⟩ : ∃ r, fog_Moved_1 p0 c0 = r := ⟨_, rfl⟩
 rw [H]
 unfold fog_Moved_1 at H
 refine Ctr.of_body (N := 8) Try.func47 (by kernel_rfl) (c := _) rfl Try.ntmps47 rfl (fun w0 h0 hval => ?_)
 refine W.rg env [1, 2] [2] ?_
 refine W.rg env [3] [] ?_
 refine W.ret ?_
 cases H
 exact At.ret env.ty rfl rfl (fun q hq => by cases hq) (.refl _) hval
theorem co_slices_Delete_Report (p0 : (List Report)) (p1 : Int) (p2 : Int) {r : (List Report)} (H : slices_Delete_Report p0 p1 p2 = some r) : CtrO Try.prog 48 [.buf 700 (p0).length, .int .i64 (p1), .int .i64 (p2)] [(700, bufL 42 9 enc_Report p0)] (.buf 900 r.length) [(900, bufL 42 9 enc_Report r)] := by
 unfold slices_Delete_Report at H
 refine CtrO.of_body (N := 33) Try.func48 (by kernel_rfl) (c := _) rfl Try.ntmps48 rfl (fun w0 h0 ρb hval hdom => ?_)
 refine W.rg env [0, 1, 2] [700] ?_
 obtain ⟨hc1, H⟩ := of_must H
 refine W.sr env [] [] [0, 1, 2] [700] rfl rfl rfl (.cons (by first | rfl | (simp; done) | omega | (simp; omega)) (.cons (⟨by first | rfl | (simp; done) | omega | (simp; omega), hc1⟩) .nil)) .nil ?_
 refine W.seq ?_
 refine W.rg env [0, 1, 2, 16] [700] ?_
 refine W.cond rfl (fun hb2 => ?_) (fun hb2 => ?_)
 · have H := of_true H hb2
   refine W.rg env [6] [700] ?_
   refine W.ret ?_
   refine At.rthen ?_
   cases H
   exact At.retK env.ty [700] 200 rfl rfl rfl rfl (.cons (.refl _) .nil) (.of_eq (by refine bufEq ?_; first | (simp [copyAt]; done) | omega | (simp [copyAt]; omega) | rfl)) hval hdom rfl
 · have H := of_false H hb2
   refine W.skip ?_
   refine At.thenC ?_
   refine W.sr env [] [] [0, 1, 2, 7] [700] rfl rfl rfl (.cons (by first | rfl | (simp; done) | omega | (simp; omega)) .nil) .nil ?_
   refine W.seq ?_
   obtain ⟨hc3, H⟩ := of_must H
   obtain ⟨hc4, H⟩ := of_must H
   obtain ⟨hc5, H⟩ := of_must H
   refine W.region env [] [] rfl rfl (by first | rfl | kernel_rfl) (.cons (⟨by first | rfl | (simp; done) | omega | (simp; omega), hc3⟩) (.cons (⟨by first | rfl | (simp; done) | omega | (simp; omega), hc4⟩) (.cons (⟨rfl, rfl, by omega, by omega, by omega⟩) .nil))) .nil (At.keep (ts := [0, 7]) (ids := [26]) rfl rfl ?_)
   refine At.convM (.cons (y := bufkL 42 9 p0.length enc_Report (p0.take ((p1).toNat) ++ p0.drop ((p2).toNat))) (BSim.kseg (Seg.moved (f := enc_Report) (l := p0) ((p1).toNat) ((p2).toNat) (by omega) (by omega))) .nil) ?_
   refine At.thenC ?_
   refine W.seq ?_
   obtain ⟨hc6, H⟩ := of_must H
   refine W.region env [] [] rfl rfl rfl (.cons (by first | rfl | (simp; done) | omega | (simp; omega)) (.cons (⟨by first | rfl | (simp; done) | omega | (simp; omega), hc6⟩) (.cons (⟨by first | rfl | (simp; done) | omega | (simp; omega), by first | rfl | (simp; done) | omega | (simp; omega), by first | omega | (simp; omega)⟩) .nil))) .nil (At.keep (ts := [0]) (ids := [26]) rfl rfl ?_)
   refine At.convM (.cons (y := bufkL 42 9 p0.length enc_Report (p0.take ((p1).toNat) ++ p0.drop ((p2).toNat))) (BSim.kseg (Seg.refl enc_Report _)) .nil) ?_
   refine At.thenC ?_
   refine W.rg env [6] [26] ?_
   refine W.ret ?_
   cases H
   exact At.retK env.ty [26] 874 rfl rfl rfl rfl (.cons (.bufk (.refl _)) .nil) (.of_eq (by refine bufEq ?_; first | (simp [copyAt]; done) | omega | (simp [copyAt]; omega) | rfl)) hval hdom rfl
theorem c_fog_Moved (fuel : Nat) (p0 : (List Node)) (p1 : (List Report)) (p2 : Int) (p3 : Int) (p4 : Int) {r : (Bool × (List Int) × Int)} (H : fog_Moved fuel p0 p1 p2 p3 p4 = some r) : Ctr Try.prog 16 [roL 8 enc_Node p0, roL 9 enc_Report p1, .int .i64 (p2), .int .i64 (p3), .int .i64 (p4)] (.tup [.bool (r.1), roL 1 enc_Int r.2.1, .int .i64 (r.2.2)]) := by
 unfold fog_Moved at H
 refine Ctr.of_body (N := 119) Try.func16 (by kernel_rfl) (c := _) rfl Try.ntmps16 rfl (fun w0 h0 hval => ?_)
 refine W.rg env [0, 1, 3, 4, 7] [7] ?_
 refine W.seq ?_
 refine W.seq ?_
 obtain ⟨y1, hy2, H⟩ := of_bindO H
 refine W.region env [] [⟨.int .i64 (y1), [], 0, []⟩] rfl rfl rfl .nil (.free (c_fog_asked p0 p1 p3 p4 hy2) .nil) (At.keep (ts := [0, 1, 3, 4, 7, 13]) (ids := [7]) rfl rfl ?_)
 refine At.thenC ?_
 refine W.rg env [0, 1, 3, 4, 7, 13, 32] [7] ?_
 refine W.cond rfl (fun hb3 => ?_) (fun hb3 => ?_)
 · have H := of_true H hb3
   refine W.rg env [10, 11, 12] [] ?_
   refine W.ret ?_
   refine At.rthen ?_
   cases H
   exact At.ret env.ty rfl rfl (fun q hq => by cases hq) (Sim.tupL (.cons (.refl _) (.cons (Sim.nil _ _) (.cons (.refl _) .nil)))) hval
 · have H := of_false H hb3
   refine W.skip ?_
   refine At.thenC ?_
   refine W.seq ?_
   obtain ⟨y4, hy5, H⟩ := of_bindO H
   refine W.region env [] [⟨.int .i64 (y4), [], 0, []⟩] rfl rfl rfl .nil (.free (c_slices_IndexFunc_Report p1 (fun x0 => some (fog_Moved_1 x0 p2)) 47 [] ([.rp [.int .i64 (p2)]]) (fun x0 r h => by cases h; exact c_fog_Moved_1 x0 p2) hy5) .nil) (At.keep (ts := [0, 1, 3, 4, 14]) (ids := []) rfl rfl ?_)
   refine At.thenC ?_
   refine W.seq ?_
   refine W.rg env [0, 1, 3, 4, 14, 38] [] ?_
   refine W.cond rfl (fun hb6 => ?_) (fun hb6 => ?_)
   · have H := of_true H hb6
     refine W.rg env [10, 11, 12] [] ?_
     refine W.ret ?_
     refine At.rthen ?_
     cases H
     exact At.ret env.ty rfl rfl (fun q hq => by cases hq) (Sim.tupL (.cons (.refl _) (.cons (Sim.nil _ _) (.cons (.refl _) .nil)))) hval
   · have H := of_false H hb6
     refine W.skip ?_
     refine At.thenC ?_
     refine W.seq ?_
     obtain ⟨y7, hy8, H⟩ := of_bindO H
     obtain ⟨hc9, H⟩ := of_must H
     obtain ⟨y10, hy11, H⟩ := of_bindO H
     refine W.region env [] [⟨.buf 900 y7.length, [(900, bufL 42 9 enc_Report y7)], 41000, []⟩, ⟨.buf 900 y10.length, [(41900, .dead), (900, bufL 42 9 enc_Report y10)], 45000, []⟩] rfl rfl (by kernel_rfl) (.cons hc9 .nil) (.free ((Ctr.ofO (co_slices_Clone_Report p1 hy8))) (.free (CtrO.sim (CtrO.at (co_slices_Delete_Report y7 y4 (y4 + 1) hy11) rfl 41900) (.cons .qc (.cons (.refl _) (.cons (.refl _) .nil))) (.cons (.refl _) .nil)) .nil)) (At.keep (ts := [0, 1, 3, 4, 14, 15]) (ids := [45900]) rfl rfl ?_)
     refine At.thenC ?_
     refine W.seq ?_
     refine At.freezeA 45900 (K := []) (ts := [0, 1, 3, 4, 14, 15]) rfl rfl rfl rfl (.cons (by first | rfl | (simp; done) | omega | (simp; omega)) .nil) .nil (fun _ h => h) ?_
     obtain ⟨y12, hy13, H⟩ := of_bindO H
     obtain ⟨y14, hy15, H⟩ := of_bindO H
     refine W.region env [] [⟨roL 1 enc_Int y12, [], 0, []⟩, ⟨roL 1 enc_Int y14, [], 0, []⟩] rfl rfl rfl .nil (.free (c_fog_path fuel p0 p1 p3 hy13) (.free (c_fog_path fuel p0 y10 p3 hy15) .nil)) (At.keep (ts := [1, 3, 4, 14, 15, 16, 17]) (ids := []) rfl rfl ?_)
     refine At.thenC ?_
     refine W.seq ?_
     obtain ⟨hc16, H⟩ := of_must H
     obtain ⟨y17, hy18, H⟩ := of_bindO H
     obtain ⟨hc19, H⟩ := of_must H
     obtain ⟨y20, hy21, H⟩ := of_bindO H
     refine W.region env [] [⟨roL 9 enc_Report y17, [], 0, []⟩, ⟨roL 9 enc_Report y20, [], 0, []⟩] rfl rfl (by kernel_rfl) (.cons hc16 (.cons hc19 .nil)) (.free (c_fog_see fuel p1 ((p1.getD (y4).toNat default).District) p3 p4 hy18) (.free (c_fog_see fuel y10 ((p1.getD (y4).toNat default).District) p3 p4 hy21) .nil)) (At.keep (ts := [16, 17, 18, 19]) (ids := []) rfl rfl ?_)
     refine At.thenC ?_
     refine W.seq ?_
     obtain ⟨y22, hy23, H⟩ := of_bindO H
     refine W.region env [] [⟨.tup [roL 1 enc_Int y22.1, .bool (y22.2)], [], 0, []⟩] rfl rfl rfl .nil (.free (c_fog_view__pair y17 hy23) .nil) (At.keep (ts := [16, 17, 18, 19, 21]) (ids := []) rfl rfl ?_)
     refine At.thenC ?_
     refine W.seq ?_
     obtain ⟨y24, hy25, H⟩ := of_bindO H
     refine W.region env [] [⟨.tup [roL 1 enc_Int y24.1, .bool (y24.2)], [], 0, []⟩] rfl rfl rfl .nil (.free (c_fog_view__pair y20 hy25) .nil) (At.keep (ts := [16, 17, 18, 19, 21, 23]) (ids := []) rfl rfl ?_)
     refine At.thenC ?_
     refine W.rg env [16, 17, 18, 19, 21, 23, 24] [] ?_
     refine W.seq ?_
     refine W.rg env [16, 17, 18, 19, 21, 23, 24, 81] [] ?_
     refine W.block ?_
     refine At.nilOwn 24 524 3 1 (e := fun i => enc_Int (([] : List Int).getD i default)) rfl rfl ?_
     refine At.keep (ts := [16, 17, 18, 19, 21, 23, 24, 81]) (ids := [524]) rfl rfl ?_
     have hn26 : 1440 ≤ 9223372036854775807 := by decide
     refine W.rangeGo H (fun i26 (s26 : (List Int)) => [(16, roL 1 enc_Int y12), (17, roL 1 enc_Int y14), (18, roL 9 enc_Report y17), (19, roL 9 enc_Report y20), (21, .bool (y22.2)), (23, .bool (y24.2)), (24, .buf 524 (s26).length), (81, .int .i64 ((i26 : Int)))]) (fun i26 (s26 : (List Int)) => [(524, bufL 3 1 enc_Int s26)]) (.cons .q (.cons .q (.cons .q (.cons .q (.cons .q (.cons .q (.cons .qb (.cons .qi .nil)))))))) (.cons .q .nil) (fun k26 i26 s26 hle26 H1 H2 K0 hK26 => ?_)
     refine W.rg env [16, 17, 18, 19, 21, 23, 24, 81, 82] [524] ?_
     refine W.seq ?_
     refine W.cond rfl (fun hb27 => ?_) (fun hb27 => ?_)
     · have hi26 : i26 < 1440 := by have := of_decide_eq_true hb27; omega
       have H := H1 hi26
       refine W.skip ?_
       refine At.thenC ?_
       refine W.seq ?_
       refine W.block ?_
       refine W.rg env [16, 17, 18, 19, 21, 23, 24, 25, 81] [524] ?_
       refine W.seq ?_
       obtain ⟨y28, hy29, H⟩ := of_bindO H
       obtain ⟨y30, hy31, H⟩ := of_bindO H
       refine W.region env [] [⟨.agg [.int .i64 (y28.Lo), .int .i64 (y28.Hi)], [], 0, []⟩, ⟨.agg [.int .i64 (y30.Lo), .int .i64 (y30.Hi)], [], 0, []⟩] rfl rfl rfl (.cons (fun h => h) (.cons (fun h => h) (.cons (fun h => h) (.cons (fun h => h) (.cons (fun h => h) (.cons (fun h => h) (.cons (fun h => h) (.cons (fun h => h) (.cons (fun h => h) (.cons (fun hW h => by revert hW h; first | (simp +contextual; done) | grind) (.cons (fun h => by rw [h]; rfl) .nil))))))))))) (.on (fun hW => c_fog_view__sight y17 (i26 : Int) (of_true hy29 hW)) (.on (fun hW => c_fog_view__sight y20 (i26 : Int) (of_true hy31 hW)) .nil)) (At.keep (ts := [16, 17, 18, 19, 21, 23, 24, 25, 81, 99]) (ids := [524]) rfl rfl ?_)
       refine At.thenC ?_
       refine W.cond rfl (fun hb32 => ?_) (fun hb32 => ?_)
       · have H := of_true H hb32
         obtain ⟨hc33, H⟩ := of_must H
         refine W.region env [] [] rfl rfl rfl (.cons (⟨by first | rfl | (simp; done) | omega | (simp; omega), by have := hc33; first | simpa using this | (unfold room at this ⊢; simp at this ⊢; omega)⟩) .nil) .nil (At.keep (ts := [16, 17, 18, 19, 21, 23, 24, 81]) (ids := [524]) rfl rfl ?_)
         refine At.convM (.cons (y := bufL 3 1 enc_Int (s26 ++ ([(i26 : Int)] : List Int))) (BSim.seg (Seg.push (Seg.refl enc_Int _) (Seg.lit (f := enc_Int) (sz := 1) ([(i26 : Int)] : List Int) rfl rfl (fun _ => rfl)))) .nil) ?_
         refine At.inb ?_
         refine At.thenC ?_
         refine W.region env [] [] rfl rfl rfl (.cons (by unfold inI; have := hn26; (try unfold maxLen at this); omega) .nil) .nil (At.keep (ts := [16, 17, 18, 19, 21, 23, 24, 81]) (ids := [524]) rfl rfl ?_)
         refine At.thenK (At.keep (ts := [16, 17, 18, 19, 21, 23, 24, 81]) (ids := [524]) rfl rfl ?_)
         exact At.conv (.cons .q (.cons .q (.cons .q (.cons .q (.cons .q (.cons .q (.cons .qb (.cons .qi .nil)))))))) (.cons .q .nil) (hK26 hi26 (s26 ++ ([(i26 : Int)] : List Int)) H)
       · have H := of_false H hb32
         refine W.skip ?_
         refine At.inb ?_
         refine At.thenC ?_
         refine W.region env [] [] rfl rfl rfl (.cons (by unfold inI; have := hn26; (try unfold maxLen at this); omega) .nil) .nil (At.keep (ts := [16, 17, 18, 19, 21, 23, 24, 81]) (ids := [524]) rfl rfl ?_)
         refine At.thenK (At.keep (ts := [16, 17, 18, 19, 21, 23, 24, 81]) (ids := [524]) rfl rfl ?_)
         exact At.conv (.cons .q (.cons .q (.cons .q (.cons .q (.cons .q (.cons .q (.cons .qb (.cons .qi .nil)))))))) (.cons .q .nil) (hK26 hi26 s26 H)
     · have H := H2 (by have := of_decide_eq_false hb27; omega)
       refine W.exit ?_
       refine At.xthen ?_
       refine At.xthen ?_
       refine At.xhere ?_
       refine At.thenC ?_
       obtain ⟨hc34, H⟩ := of_must H
       obtain ⟨hc35, H⟩ := of_must H
       obtain ⟨hc36, H⟩ := of_must H
       obtain ⟨hc37, H⟩ := of_must H
       refine W.sr env [] [] [10, 11, 12] [524] rfl rfl (by first | rfl | kernel_rfl) (.cons hc34 (.cons hc35 (.cons hc36 (.cons hc37 .nil)))) .nil ?_
       refine W.ret ?_
       cases H
       exact At.ret env.ty rfl rfl (fun q hq => by cases hq; exact (by first | rfl | (simp; done) | omega | (simp; omega))) (.refl _) hval
theorem c_gasolierref05_Same (fuel : Nat) (p0 : (List Int)) (p1 : (List Int)) {r : Bool} (H : gasolierref05_Same fuel p0 p1 = some r) : Ctr Try.prog 32 [roL 1 enc_Int p0, roL 1 enc_Int p1] (.bool (r)) := by
 unfold gasolierref05_Same at H
 refine Ctr.of_body (N := 26) Try.func32 (by kernel_rfl) (c := _) rfl Try.ntmps32 rfl (fun w0 h0 hval => ?_)
 refine W.rg env [0, 1] [] ?_
 refine W.seq ?_
 refine W.rg env [0, 1, 10] [] ?_
 refine W.cond rfl (fun hb1 => ?_) (fun hb1 => ?_)
 · have H := of_true H hb1
   refine W.rg env [4] [] ?_
   refine W.ret ?_
   refine At.rthen ?_
   cases H
   exact At.ret env.ty rfl rfl (fun q hq => by cases hq) (.refl _) hval
 · have H := of_false H hb1
   refine W.skip ?_
   refine At.thenC ?_
   refine W.seq ?_
   refine W.rg env [0, 1, 5] [] ?_
   refine W.block ?_
   refine At.keep (ts := [0, 1, 5]) (ids := []) rfl rfl ?_
   refine W.loopGo H (fun (s2 : Int) => [(0, roL 1 enc_Int p0), (1, roL 1 enc_Int p1), (5, .int .i64 (s2))]) (fun (s2 : Int) => []) (.cons .q (.cons .q (.cons .qi .nil))) .nil (fun k2 s2 H K0 hK2 => ?_)
   refine W.seq ?_
   refine W.rg env [0, 1, 5, 14] [] ?_
   refine W.cond rfl (fun hb3 => ?_) (fun hb3 => ?_)
   · have H := of_true H hb3
     refine W.skip ?_
     refine At.thenC ?_
     refine W.seq ?_
     refine W.block ?_
     obtain ⟨hc4, H⟩ := of_must H
     obtain ⟨hc5, H⟩ := of_must H
     refine W.sr env [] [] [0, 1, 5, 25] [] rfl rfl (by first | rfl | kernel_rfl) (.cons hc4 (.cons hc5 .nil)) .nil ?_
     refine W.cond rfl (fun hb6 => ?_) (fun hb6 => ?_)
     · have H := of_true H hb6
       refine W.rg env [4] [] ?_
       refine W.ret ?_
       refine At.rinb ?_
       refine At.rthen ?_
       refine At.rthen ?_
       refine At.rinb ?_
       refine At.rthen ?_
       cases H
       exact At.ret env.ty rfl rfl (fun q hq => by cases hq) (.refl _) hval
     · have H := of_false H hb6
       refine W.skip ?_
       refine At.inb ?_
       refine At.thenC ?_
       obtain ⟨hc7, H⟩ := of_must H
       refine W.region env [] [] rfl rfl rfl (.cons hc7 .nil) .nil (At.keep (ts := [0, 1, 5]) (ids := []) rfl rfl ?_)
       refine At.thenK (At.keep (ts := [0, 1, 5]) (ids := []) rfl rfl ?_)
       exact At.conv (.cons .q (.cons .q (.cons .qi .nil))) .nil (hK2 (s2 + 1) H)
   · have H := of_false H hb3
     refine W.exit ?_
     refine At.xthen ?_
     refine At.xthen ?_
     refine At.xhere ?_
     refine At.thenC ?_
     refine W.rg env [4] [] ?_
     refine W.ret ?_
     cases H
     exact At.ret env.ty rfl rfl (fun q hq => by cases hq) (.refl _) hval
theorem c_gasolierlaw05_sane (fuel : Nat) {r : Bool} (H : gasolierlaw05_sane fuel = some r) : Ctr Try.prog 13 [] (.bool (r)) := by
 unfold gasolierlaw05_sane at H
 refine Ctr.of_body (N := 177) Try.func13 (by kernel_rfl) (c := _) rfl Try.ntmps13 rfl (fun w0 h0 hval => ?_)
 refine W.rg env [] [] ?_
 refine W.sr env [] [⟨roL 9 enc_Report (gasolierlaw05_reports), [], 0, []⟩] [1] [] rfl rfl rfl .nil (.free (c_gasolierlaw05_reports) .nil) ?_
 refine W.sr env [] [⟨roL 8 enc_Node (gasolierlaw05_policy), [], 0, []⟩] [1, 2] [] rfl rfl rfl .nil (.free (c_gasolierlaw05_policy) .nil) ?_
 refine W.sr env [] [⟨roL 2 enc_Runner (gasolierlaw05_runners), [], 0, []⟩] [1, 2, 3] [] rfl rfl rfl .nil (.free (c_gasolierlaw05_runners) .nil) ?_
 refine W.seq ?_
 obtain ⟨hc1, H⟩ := of_must H
 obtain ⟨hc2, H⟩ := of_must H
 refine W.region env [] [] rfl rfl (by first | rfl | kernel_rfl) (.cons hc1 (.cons hc2 .nil)) .nil (At.keep (ts := [1, 2, 3, 4]) (ids := []) rfl rfl ?_)
 refine At.slot (t := 4) (v := roL 2 enc_Runner ([((gasolierlaw05_runners).getD 0 default), ((gasolierlaw05_runners).getD 2 default)] : List Runner)) (Sim.lit (f := enc_Runner) ([((gasolierlaw05_runners).getD 0 default), ((gasolierlaw05_runners).getD 2 default)] : List Runner) rfl rfl (fun _ => rfl)) ?_
 refine At.thenC ?_
 refine W.seq ?_
 obtain ⟨y3, hy4, H⟩ := of_bindO H
 refine W.region env [] [⟨.tup [.agg [.int .i64 (y3.1.Lo), .int .i64 (y3.1.Hi)], .int .i64 (y3.2)], [], 0, []⟩] rfl rfl rfl .nil (.free (c_fog_Sight fuel (gasolierlaw05_reports) 1 2 450 3400 hy4) .nil) (At.keep (ts := [1, 2, 3, 4, 5, 6]) (ids := [5]) rfl rfl ?_)
 refine At.thenC ?_
 refine W.seq ?_
 obtain ⟨y5, hy6, H⟩ := of_bindO H
 refine W.region env [] [⟨.tup [.int .i64 (y5.1), .int .i64 (y5.2)], [], 0, []⟩] rfl rfl rfl .nil (.free (c_fog_Below fuel (gasolierlaw05_reports) 1 2 450 200 3300 hy6) .nil) (At.keep (ts := [1, 2, 3, 4, 5, 6, 7, 8]) (ids := [5]) rfl rfl ?_)
 refine At.thenC ?_
 refine W.seq ?_
 obtain ⟨y7, hy8, H⟩ := of_bindO H
 refine W.region env [] [⟨.tup [roL 1 enc_Int y7.1, .int .i64 (y7.2)], [], 0, []⟩] rfl rfl rfl .nil (.free (c_fog_Clash fuel (gasolierlaw05_reports) 1 2 3500 hy8) .nil) (At.keep (ts := [1, 2, 3, 4, 5, 6, 7, 8, 9, 10]) (ids := [5]) rfl rfl ?_)
 refine At.thenC ?_
 refine W.seq ?_
 obtain ⟨y9, hy10, H⟩ := of_bindO H
 refine W.region env [] [⟨.tup [.agg [.int .i64 (y9.1.Lo), .int .i64 (y9.1.Hi)], .int .i64 (y9.2)], [], 0, []⟩] rfl rfl rfl .nil (.free (c_fog_Worst fuel (gasolierlaw05_reports) 1 2 (⟨300, 600⟩ : Range) 3400 hy10) .nil) (At.keep (ts := [1, 2, 3, 4, 5, 6, 7, 8, 9, 10, 11, 12]) (ids := [5, 11]) rfl rfl ?_)
 refine At.thenC ?_
 refine W.seq ?_
 obtain ⟨y11, hy12, H⟩ := of_bindO H
 refine W.region env [] [⟨.tup [roL 1 enc_Int y11.1, .int .i64 (y11.2)], [], 0, []⟩] rfl rfl rfl .nil (.free (c_fog_Path fuel (gasolierlaw05_policy) (gasolierlaw05_reports) 2 hy12) .nil) (At.keep (ts := [1, 2, 3, 4, 5, 6, 7, 8, 9, 10, 11, 12, 13, 14]) (ids := [5, 11]) rfl rfl ?_)
 refine At.thenC ?_
 refine W.seq ?_
 obtain ⟨y13, hy14, H⟩ := of_bindO H
 refine W.region env [] [⟨.tup [roL 1 enc_Int y13.1, .int .i64 (y13.2)], [], 0, []⟩] rfl rfl rfl .nil (.free (c_fog_Possible fuel (gasolierlaw05_policy) (gasolierlaw05_reports) 2 3300 hy14) .nil) (At.keep (ts := [1, 2, 3, 4, 5, 6, 7, 8, 9, 10, 11, 12, 13, 14, 15, 16]) (ids := [5, 11]) rfl rfl ?_)
 refine At.thenC ?_
 refine W.seq ?_
 obtain ⟨y15, hy16, H⟩ := of_bindO H
 refine W.region env [] [⟨.tup [roL 1 enc_Int y15.1, .int .i64 (y15.2)], [], 0, []⟩] rfl rfl rfl .nil (.free (c_fog_Assign fuel (gasolierlaw05_policy) (gasolierlaw05_runners) 1 hy16) .nil) (At.keep (ts := [1, 2, 4, 5, 6, 7, 8, 9, 10, 11, 12, 13, 14, 15, 16, 17, 18]) (ids := [5, 11]) rfl rfl ?_)
 refine At.thenC ?_
 refine W.seq ?_
 obtain ⟨y17, hy18, H⟩ := of_bindO H
 refine W.region env [] [⟨.tup [roL 1 enc_Int y17.1, .int .i64 (y17.2)], [], 0, []⟩] rfl rfl rfl .nil (.free (c_fog_Short fuel (gasolierlaw05_policy) ([((gasolierlaw05_runners).getD 0 default), ((gasolierlaw05_runners).getD 2 default)] : List Runner) 1 hy18) .nil) (At.keep (ts := [1, 2, 5, 6, 7, 8, 9, 10, 11, 12, 13, 14, 15, 16, 17, 18, 19, 20]) (ids := [5, 11]) rfl rfl ?_)
 refine At.thenC ?_
 refine W.seq ?_
 obtain ⟨y19, hy20, H⟩ := of_bindO H
 refine W.region env [] [⟨.tup [.bool (y19.1), roL 1 enc_Int y19.2.1, .int .i64 (y19.2.2)], [], 0, []⟩] rfl rfl rfl .nil (.free (c_fog_Moved fuel (gasolierlaw05_policy) (gasolierlaw05_reports) 2 2 3400 hy20) .nil) (At.keep (ts := [5, 6, 7, 8, 9, 10, 11, 12, 13, 14, 15, 16, 17, 18, 19, 20, 21, 22, 23]) (ids := [5, 11]) rfl rfl ?_)
 refine At.thenC ?_
 refine W.sr env [] [] [5, 7, 9, 11, 13, 15, 17, 19, 21, 22, 24] [5, 11] rfl rfl rfl (.cons (fun h => h) (.cons (fun h => h) (.cons (fun h => h) (.cons (fun h => h) (.cons (fun h => h) (.cons (fun h => h) (.cons (fun h => h) (.cons (fun h => h) (.cons (fun h => h) (.cons (fun h => h) (.cons (fun h => h) (.cons (fun h => h) (.cons (fun h => h) (.cons (fun h => h) (.cons (fun h => h) (.cons (fun h => h) .nil)))))))))))))))) .nil ?_
 refine W.seq ?_
 obtain ⟨y21, hy22, H⟩ := of_bindO H
 obtain ⟨y23, hy24, H⟩ := of_bindO H
 refine W.region env [] [⟨.bool (y21), [], 0, []⟩, ⟨.bool (y23), [], 0, []⟩] rfl rfl rfl (.cons (fun h => h) (.cons (fun h => h) (.cons (fun h => h) (.cons (fun h => h) (.cons (fun h => h) (.cons (fun h => h) (.cons (fun h => h) (.cons (fun h => h) (.cons (fun h => h) (.cons (fun h => h) (.cons (fun h => h) .nil))))))))))) (.on (fun hW => Ctr.sim (.cons (.refl _) (.cons (Sim.lit (f := enc_Int) ([2, 3] : List Int) rfl rfl (fun _ => rfl)) .nil)) (c_gasolierref05_Same fuel y7.1 ([2, 3] : List Int) (of_true hy22 hW))) (.on (fun hW => Ctr.sim (.cons (.refl _) (.cons (Sim.lit (f := enc_Int) ([0, 1] : List Int) rfl rfl (fun _ => rfl)) .nil)) (c_gasolierref05_Same fuel y11.1 ([0, 1] : List Int) (of_true hy24 hW))) .nil)) (At.keep (ts := [15, 17, 19, 21, 22, 24, 25]) (ids := []) rfl rfl ?_)
 refine At.thenC ?_
 refine W.seq ?_
 obtain ⟨y25, hy26, H⟩ := of_bindO H
 obtain ⟨y27, hy28, H⟩ := of_bindO H
 obtain ⟨y29, hy30, H⟩ := of_bindO H
 obtain ⟨hc31, H⟩ := of_must H
 refine W.region env [] [⟨.bool (y25), [], 0, []⟩, ⟨.bool (y27), [], 0, []⟩, ⟨.bool (y29), [], 0, []⟩] rfl rfl rfl (.cons (fun h => h) (.cons (fun h => h) (.cons (fun h => h) (.cons (fun h => h) (.cons (fun h => h) (.cons (fun h => h) (.cons (fun h => h) (.cons (fun h => h) (.cons (fun h => h) (.cons (fun h => h) (.cons (fun h => h) (.cons (fun h => h) (.cons (fun h => h) (.cons (fun h => h) (.cons hc31 (.cons (fun h => h) (.cons (fun h => h) (.cons (fun h => h) (.cons (fun h => h) .nil))))))))))))))))))) (.on (fun hW => Ctr.sim (.cons (.refl _) (.cons (Sim.lit (f := enc_Int) ([1, 2, 3] : List Int) rfl rfl (fun _ => rfl)) .nil)) (c_gasolierref05_Same fuel y13.1 ([1, 2, 3] : List Int) (of_true hy26 hW))) (.on (fun hW => Ctr.sim (.cons (.refl _) (.cons (Sim.lit (f := enc_Int) ([10, 11, 12] : List Int) rfl rfl (fun _ => rfl)) .nil)) (c_gasolierref05_Same fuel y15.1 ([10, 11, 12] : List Int) (of_true hy28 hW))) (.on (fun hW => Ctr.sim (.cons (.refl _) (.cons (Sim.lit (f := enc_Int) ([1] : List Int) rfl rfl (fun _ => rfl)) .nil)) (c_gasolierref05_Same fuel y17.1 ([1] : List Int) (of_true hy30 hW))) .nil))) (At.keep (ts := [0]) (ids := []) rfl rfl ?_)
 refine At.thenC ?_
 refine W.ret ?_
 cases H
 exact At.ret env.ty rfl rfl (fun q hq => by cases hq) (.refl _) hval
theorem c_gasolierlaw05_FogEither (fuel : Nat) (p0 : (List (Arr4 Int))) (p1 : (List Int)) (p2 : gasolierlaw05_Given) {r : Bool} (H : gasolierlaw05_FogEither fuel p0 p1 p2 = some r) : Ctr Try.prog 9 [roL 4 enc_Arr4Int p0, roL 1 enc_Int p1, .agg [.int .i64 (p2.Leaf), roL 1 enc_Int p2.Ids, roL 1 enc_Int p2.Districts]] (.bool (r)) := by
 unfold gasolierlaw05_FogEither at H
 refine Ctr.of_body (N := 114) Try.func9 (by kernel_rfl) (c := _) rfl Try.ntmps9 rfl (fun w0 h0 hval => ?_)
 refine W.rg env [0, 1, 5] [5] ?_
 refine W.seq ?_
 obtain ⟨y1, hy2, H⟩ := of_bindO H
 refine W.region env [] [⟨roL 8 enc_Node y1, [], 0, []⟩] rfl rfl rfl .nil (.free (c_gasolierref05_Policy fuel p0 hy2) .nil) (At.keep (ts := [1, 5, 7]) (ids := [5]) rfl rfl ?_)
 refine At.thenC ?_
 refine W.seq ?_
 obtain ⟨y3, hy4, H⟩ := of_bindO H
 refine W.region env [] [⟨roL 2 enc_Runner y3, [], 0, []⟩] rfl rfl rfl .nil (.free (c_gasolierref05_Runners fuel p1 hy4) .nil) (At.keep (ts := [5, 7, 8]) (ids := [5]) rfl rfl ?_)
 refine At.thenC ?_
 refine W.seq ?_
 obtain ⟨y5, hy6, H⟩ := of_bindO H
 refine W.region env [] [⟨.tup [roL 1 enc_Int y5.1, .int .i64 (y5.2)], [], 0, []⟩] rfl rfl rfl .nil (.free (c_fog_Leaves y1 hy6) .nil) (At.keep (ts := [5, 7, 8, 9, 10]) (ids := [5]) rfl rfl ?_)
 refine At.thenC ?_
 refine W.seq ?_
 refine W.sr env [] [] [5, 7, 8, 9, 33] [5] rfl rfl rfl (.cons (fun h => h) (.cons (fun h => h) (.cons (fun h => by rw [h]; rfl) .nil))) .nil ?_
 refine W.cond rfl (fun hb7 => ?_) (fun hb7 => ?_)
 · have H := of_true H hb7
   refine W.rg env [6] [] ?_
   refine W.ret ?_
   refine At.rthen ?_
   cases H
   exact At.ret env.ty rfl rfl (fun q hq => by cases hq) (.refl _) hval
 · have H := of_false H hb7
   refine W.skip ?_
   refine At.thenC ?_
   refine W.seq ?_
   obtain ⟨y8, hy9, H⟩ := of_bindO H
   obtain ⟨hc10, H⟩ := of_must H
   refine W.region env [] [⟨.int .i64 (y8), [], 0, []⟩] rfl rfl rfl (.cons hc10 .nil) (.free (c_gasolierref05_Mod p2.Leaf ((y5.1.length : Nat) : Int) hy9) .nil) (At.keep (ts := [5, 7, 8, 11]) (ids := [5]) rfl rfl ?_)
   refine At.thenC ?_
   refine W.seq ?_
   obtain ⟨y11, hy12, H⟩ := of_bindO H
   refine W.region env [] [⟨.tup [roL 1 enc_Int y11.1, .int .i64 (y11.2)], [], 0, []⟩] rfl rfl rfl .nil (.free (c_fog_Assign fuel y1 y3 (y5.1.getD (y8).toNat default) hy12) .nil) (At.keep (ts := [5, 7, 8, 11, 12, 13]) (ids := [5]) rfl rfl ?_)
   refine At.thenC ?_
   refine W.seq ?_
   obtain ⟨y13, hy14, H⟩ := of_bindO H
   refine W.region env [] [⟨.tup [roL 1 enc_Int y13.1, .int .i64 (y13.2)], [], 0, []⟩] rfl rfl rfl .nil (.free (c_fog_Short fuel y1 y3 (y5.1.getD (y8).toNat default) hy14) .nil) (At.keep (ts := [5, 7, 8, 11, 12, 13, 14, 15]) (ids := [5]) rfl rfl ?_)
   refine At.thenC ?_
   refine W.seq ?_
   obtain ⟨y15, hy16, H⟩ := of_bindO H
   refine W.region env [] [⟨.int .i64 (y15), [], 0, []⟩] rfl rfl rfl .nil (.free (c_fog_CheckAssign y1 y3 (y5.1.getD (y8).toNat default) p2.Ids hy16) .nil) (At.keep (ts := [5, 7, 8, 11, 12, 13, 14, 15, 16]) (ids := [5]) rfl rfl ?_)
   refine At.thenC ?_
   refine W.seq ?_
   obtain ⟨y17, hy18, H⟩ := of_bindO H
   refine W.region env [] [⟨.int .i64 (y17), [], 0, []⟩] rfl rfl rfl .nil (.free (c_fog_CheckShort y1 y3 (y5.1.getD (y8).toNat default) p2.Districts hy18) .nil) (At.keep (ts := [7, 8, 11, 12, 13, 14, 15, 16, 17]) (ids := []) rfl rfl ?_)
   refine At.thenC ?_
   refine W.seq ?_
   refine W.sr env [] [] [7, 8, 11, 12, 13, 14, 15, 16, 17, 73] [] rfl rfl rfl (.cons (fun h => h) .nil) .nil ?_
   refine W.cond rfl (fun hb19 => ?_) (fun hb19 => ?_)
   · have H := of_true H hb19
     refine W.rg env [6] [] ?_
     refine W.ret ?_
     refine At.rthen ?_
     cases H
     exact At.ret env.ty rfl rfl (fun q hq => by cases hq) (.refl _) hval
   · have H := of_false H hb19
     refine W.skip ?_
     refine At.thenC ?_
     refine W.seq ?_
     refine W.rg env [7, 8, 11, 12, 13, 14, 15, 16, 17, 75] [] ?_
     refine W.cond rfl (fun hb20 => ?_) (fun hb20 => ?_)
     · have H := of_true H hb20
       refine W.seq ?_
       obtain ⟨y21, hy22, H⟩ := of_bindO H
       obtain ⟨y23, hy24, H⟩ := of_bindO H
       refine W.region env [] [⟨.int .i64 (y21), [], 0, []⟩, ⟨.bool (y23), [], 0, []⟩] rfl rfl rfl (.cons (fun h => h) (.cons (fun h => h) (.cons (fun h => h) (.cons (fun h => h) (.cons (fun h => h) (.cons (fun h => h) (.cons (fun h => h) (.cons (fun h => h) (.cons (fun h => h) .nil))))))))) (.on (fun hW => c_fog_CheckAssign y1 y3 (y5.1.getD (y8).toNat default) y11.1 (of_true hy22 hW)) (.on (fun hW => c_gasolierlaw05_sane 20000 (of_true hy24 hW)) .nil)) (At.keep (ts := [6]) (ids := []) rfl rfl ?_)
       refine At.thenC ?_
       refine W.ret ?_
       refine At.rthen ?_
       cases H
       exact At.ret env.ty rfl rfl (fun q hq => by cases hq) (.refl _) hval
     · have H := of_false H hb20
       refine W.skip ?_
       refine At.thenC ?_
       refine W.seq ?_
       obtain ⟨y25, hy26, H⟩ := of_bindO H
       obtain ⟨y27, hy28, H⟩ := of_bindO H
       refine W.region env [] [⟨.int .i64 (y25), [], 0, []⟩, ⟨.bool (y27), [], 0, []⟩] rfl rfl rfl (.cons (fun h => h) (.cons (fun h => h) (.cons (fun h => h) (.cons (fun h => h) (.cons (fun h => h) (.cons (fun h => h) (.cons (fun h => h) (.cons (fun h => h) (.cons (fun h => h) (.cons (fun h => h) (.cons (fun h => h) .nil))))))))))) (.on (fun hW => c_fog_CheckShort y1 y3 (y5.1.getD (y8).toNat default) y13.1 (of_true hy26 hW)) (.on (fun hW => c_gasolierlaw05_sane 20000 (of_true hy28 hW)) .nil)) (At.keep (ts := [6]) (ids := []) rfl rfl ?_)
       refine At.thenC ?_
       refine W.ret ?_
       cases H
       exact At.ret env.ty rfl rfl (fun q hq => by cases hq) (.refl _) hval
end Go.Sp
