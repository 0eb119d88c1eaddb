/- Printed by gen.py: contracts, part 2. -/
import Derived.Test.YtoekhnngdocddaaGreatCtr1
set_option linter.all false
set_option maxRecDepth 100000
set_option maxHeartbeats 1000000
namespace Go.Sp
open Go Go.Av Go.Proofs
theorem c_fog_few (p0 : Node) (p1 : (List Runner)) (p2 : (List Int)) {r : Bool} (H : fog_few p0 p1 p2 = some r) : Ctr Tryz.prog 102 [.agg [.bool (p0.Test), .int .i64 (p0.District), .int .i64 (p0.Minute), .int .i64 (p0.Limit), .int .i64 (p0.Yes), .int .i64 (p0.No), .int .i64 (p0.Maybe), roL 2 enc_Send p0.Sends], roL 2 enc_Runner p1, roL 1 enc_Int p2] (.bool (r)) := by
 unfold fog_few at H
 refine Ctr.of_body (N := 46) Tryz.func102 (by kernel_rfl) (c := _) rfl Tryz.ntmps102 rfl (fun w0 h0 hval => ?_)
 refine W.rg env [1, 3, 5] [3, 5] ?_
 refine W.rg env [1, 3, 5, 7] [3, 5] ?_
 refine W.seq ?_
 refine W.rg env [1, 5, 7, 14, 15, 16] [5] ?_
 refine W.block ?_
 refine At.keep (ts := [1, 5, 7, 14, 15, 16]) (ids := [5]) rfl rfl ?_
 refine W.len (t := 14) rfl (fun (hn1 : p0.Sends.length ≤ maxLen) => ?_)
 refine W.rangeGo H (fun i1 (s1 : Int) => [(1, roL 2 enc_Runner p1), (5, .lp 5 0), (7, .int .i64 (s1)), (14, roL 2 enc_Send p0.Sends), (15, .int .i64 (((p0.Sends.length : Nat) : Int))), (16, .int .i64 ((i1 : Int)))]) (fun i1 (s1 : Int) => [(5, .cells [roL 1 enc_Int p2])]) (.cons .q (.cons .q (.cons .qi (.cons .q (.cons .qi (.cons .qi .nil)))))) (.cons .q .nil) (fun k1 i1 s1 hle1 H1 H2 K0 hK1 => ?_)
 refine W.rg env [1, 5, 7, 14, 15, 16, 17] [5] ?_
 refine W.seq ?_
 refine W.cond rfl (fun hb2 => ?_) (fun hb2 => ?_)
 · have hi1 : i1 < p0.Sends.length := by have := of_decide_eq_true hb2; omega
   have H := H1 hi1
   refine W.skip ?_
   refine At.thenC ?_
   refine W.seq ?_
   refine W.block ?_
   refine W.sr env [] [] [1, 5, 7, 9, 14, 15, 16] [5, 9] rfl rfl rfl (.cons (⟨by omega, by omega⟩ : 0 ≤ (i1 : Int) ∧ (i1 : Int) < ((p0.Sends.length : Nat) : Int)) .nil) .nil ?_
   refine W.seq ?_
   obtain ⟨y3, hy4, H⟩ := of_bindO H
   refine W.region env [] [⟨.bool (y3), [], 0, []⟩] rfl rfl rfl .nil (.free (c_slices_Contains_int p2 ((p0.Sends.getD i1 default).District) hy4) .nil) (At.keep (ts := [1, 5, 7, 9, 14, 15, 16, 23]) (ids := [5, 9]) rfl rfl ?_)
   refine At.thenC ?_
   refine W.cond rfl (fun hb5 => ?_) (fun hb5 => ?_)
   · have H := of_true H hb5
     obtain ⟨y6, hy7, H⟩ := of_bindO H
     refine W.region env [] [⟨.int .i64 (y6), [], 0, []⟩] rfl rfl rfl .nil (.free (Ctr.sim (.cons (Sim.lit (f := enc_Int) ([s1, (p0.Sends.getD i1 default).Many] : List Int) rfl rfl (fun _ => rfl)) .nil) (c_fog_sum ([s1, (p0.Sends.getD i1 default).Many] : List Int) hy7)) .nil) (At.keep (ts := [1, 5, 7, 14, 15, 16]) (ids := [5]) rfl rfl ?_)
     refine At.inb ?_
     refine At.thenC ?_
     refine W.region env [] [] rfl rfl rfl (.cons (by unfold inI; have := hn1; (try unfold maxLen at this); omega) .nil) .nil (At.keep (ts := [1, 5, 7, 14, 15, 16]) (ids := [5]) rfl rfl ?_)
     refine At.thenK (At.keep (ts := [1, 5, 7, 14, 15, 16]) (ids := [5]) rfl rfl ?_)
     exact At.conv (.cons .q (.cons .q (.cons .qi (.cons .q (.cons .qi (.cons .qi .nil)))))) (.cons .q .nil) (hK1 hi1 y6 H)
   · have H := of_false H hb5
     refine W.skip ?_
     refine At.inb ?_
     refine At.thenC ?_
     refine W.region env [] [] rfl rfl rfl (.cons (by unfold inI; have := hn1; (try unfold maxLen at this); omega) .nil) .nil (At.keep (ts := [1, 5, 7, 14, 15, 16]) (ids := [5]) rfl rfl ?_)
     refine At.thenK (At.keep (ts := [1, 5, 7, 14, 15, 16]) (ids := [5]) rfl rfl ?_)
     exact At.conv (.cons .q (.cons .q (.cons .qi (.cons .q (.cons .qi (.cons .qi .nil)))))) (.cons .q .nil) (hK1 hi1 s1 H)
 · have H := H2 (by have := of_decide_eq_false hb2; omega)
   refine W.exit ?_
   refine At.xthen ?_
   refine At.xthen ?_
   refine At.xhere ?_
   refine At.thenC ?_
   refine W.rg env [1, 5, 7, 10] [5] ?_
   refine W.seq ?_
   refine W.rg env [5, 7, 10, 30, 31, 32] [5] ?_
   refine W.block ?_
   refine At.keep (ts := [5, 7, 10, 30, 31, 32]) (ids := [5]) rfl rfl ?_
   refine W.len (t := 30) rfl (fun (hn8 : p1.length ≤ maxLen) => ?_)
   refine W.rangeGo H (fun i8 (s8 : Int) => [(5, .lp 5 0), (7, .int .i64 (s1)), (10, .int .i64 (s8)), (30, roL 2 enc_Runner p1), (31, .int .i64 (((p1.length : Nat) : Int))), (32, .int .i64 ((i8 : Int)))]) (fun i8 (s8 : Int) => [(5, .cells [roL 1 enc_Int p2])]) (.cons .q (.cons .qi (.cons .qi (.cons .q (.cons .qi (.cons .qi .nil)))))) (.cons .q .nil) (fun k8 i8 s8 hle8 H1 H2 K0 hK8 => ?_)
   refine W.rg env [5, 7, 10, 30, 31, 32, 33] [5] ?_
   refine W.seq ?_
   refine W.cond rfl (fun hb9 => ?_) (fun hb9 => ?_)
   · have hi8 : i8 < p1.length := by have := of_decide_eq_true hb9; omega
     have H := H1 hi8
     refine W.skip ?_
     refine At.thenC ?_
     refine W.seq ?_
     refine W.block ?_
     refine W.sr env [] [] [5, 7, 10, 12, 30, 31, 32] [5, 12] rfl rfl rfl (.cons (⟨by omega, by omega⟩ : 0 ≤ (i8 : Int) ∧ (i8 : Int) < ((p1.length : Nat) : Int)) .nil) .nil ?_
     refine W.seq ?_
     obtain ⟨y10, hy11, H⟩ := of_bindO H
     refine W.region env [] [⟨.bool (y10), [], 0, []⟩] rfl rfl rfl .nil (.free (c_slices_ContainsFunc_int ((p1.getD i8 default).Districts) (fun x0 => fog_few_1 x0 p2) 144 [] ([.rp [roL 1 enc_Int p2]]) (fun x0 r h => c_fog_few_1 x0 p2 h) hy11) .nil) (At.keep (ts := [5, 7, 10, 30, 31, 32, 39]) (ids := [5]) rfl rfl ?_)
     refine At.thenC ?_
     refine W.cond rfl (fun hb12 => ?_) (fun hb12 => ?_)
     · have H := of_true H hb12
       obtain ⟨hc13, H⟩ := of_must H
       refine W.region env [] [] rfl rfl rfl (.cons hc13 .nil) .nil (At.keep (ts := [5, 7, 10, 30, 31, 32]) (ids := [5]) rfl rfl ?_)
       refine At.inb ?_
       refine At.thenC ?_
       refine W.region env [] [] rfl rfl rfl (.cons (by unfold inI; have := hn8; (try unfold maxLen at this); omega) .nil) .nil (At.keep (ts := [5, 7, 10, 30, 31, 32]) (ids := [5]) rfl rfl ?_)
       refine At.thenK (At.keep (ts := [5, 7, 10, 30, 31, 32]) (ids := [5]) rfl rfl ?_)
       exact At.conv (.cons .q (.cons .qi (.cons .qi (.cons .q (.cons .qi (.cons .qi .nil)))))) (.cons .q .nil) (hK8 hi8 (s8 + 1) H)
     · have H := of_false H hb12
       refine W.skip ?_
       refine At.inb ?_
       refine At.thenC ?_
       refine W.region env [] [] rfl rfl rfl (.cons (by unfold inI; have := hn8; (try unfold maxLen at this); omega) .nil) .nil (At.keep (ts := [5, 7, 10, 30, 31, 32]) (ids := [5]) rfl rfl ?_)
       refine At.thenK (At.keep (ts := [5, 7, 10, 30, 31, 32]) (ids := [5]) rfl rfl ?_)
       exact At.conv (.cons .q (.cons .qi (.cons .qi (.cons .q (.cons .qi (.cons .qi .nil)))))) (.cons .q .nil) (hK8 hi8 s8 H)
   · have H := H2 (by have := of_decide_eq_false hb9; omega)
     refine W.exit ?_
     refine At.xthen ?_
     refine At.xthen ?_
     refine At.xhere ?_
     refine At.thenC ?_
     refine W.rg env [6] [] ?_
     refine W.ret ?_
     cases H
     exact At.ret env.ty rfl rfl (fun q hq => by cases hq) (.refl _) hval
theorem c_fog_some (p0 : Node) (p1 : (List Runner)) (p2 : (List Int)) {r : Bool} (H : fog_some p0 p1 p2 = some r) : Ctr Tryz.prog 88 [.agg [.bool (p0.Test), .int .i64 (p0.District), .int .i64 (p0.Minute), .int .i64 (p0.Limit), .int .i64 (p0.Yes), .int .i64 (p0.No), .int .i64 (p0.Maybe), roL 2 enc_Send p0.Sends], roL 2 enc_Runner p1, roL 1 enc_Int p2] (.bool (r)) := by
 unfold fog_some at H
 refine Ctr.of_body (N := 39) Tryz.func88 (by kernel_rfl) (c := _) rfl Tryz.ntmps88 rfl (fun w0 h0 hval => ?_)
 refine W.rg env [1, 2, 3] [3] ?_
 refine W.seq ?_
 obtain ⟨hc1, H⟩ := of_must H
 refine W.sr env [] [] [1, 2, 3, 13, 14] [3] rfl rfl rfl (.cons hc1 .nil) .nil ?_
 refine W.block ?_
 refine At.keep (ts := [1, 2, 3, 13, 14]) (ids := [3]) rfl rfl ?_
 obtain ⟨hn2, H⟩ := of_must H
 refine W.rangeGo H (fun i2 (s2 : Unit) => [(1, roL 2 enc_Runner p1), (2, roL 1 enc_Int p2), (3, .lp 3 0), (13, .int .i64 (((1 : Int) * 2 ^ (((p2.length : Nat) : Int) : Int).toNat))), (14, .int .i64 ((i2 : Int)))]) (fun i2 (s2 : Unit) => [(3, .cells [.bool (p0.Test), .int .i64 (p0.District), .int .i64 (p0.Minute), .int .i64 (p0.Limit), .int .i64 (p0.Yes), .int .i64 (p0.No), .int .i64 (p0.Maybe), roL 2 enc_Send p0.Sends])]) (.cons .q (.cons .q (.cons .q (.cons .qi (.cons .qi .nil))))) (.cons .q .nil) (fun k2 i2 s2 hle2 H1 H2 K0 hK2 => ?_)
 refine W.rg env [1, 2, 3, 13, 14, 15] [3] ?_
 refine W.seq ?_
 refine W.cond rfl (fun hb3 => ?_) (fun hb3 => ?_)
 · have hi2 : i2 < (((1 : Int) * 2 ^ (((p2.length : Nat) : Int) : Int).toNat)).toNat := by have := of_decide_eq_true hb3; omega
   have H := H1 hi2
   refine W.skip ?_
   refine At.thenC ?_
   refine W.seq ?_
   refine W.block ?_
   refine W.rg env [1, 2, 3, 7, 13, 14] [3] ?_
   refine W.rg env [1, 2, 3, 7, 8, 13, 14] [3] ?_
   refine W.seq ?_
   refine W.rg env [1, 2, 3, 7, 8, 13, 14, 17, 18, 19] [3] ?_
   refine W.block ?_
   refine At.nilOwn 8 508 3 1 (e := fun i => enc_Int (([] : List Int).getD i default)) rfl rfl ?_
   refine At.keep (ts := [1, 2, 3, 7, 8, 13, 14, 17, 18, 19]) (ids := [3, 508]) rfl rfl ?_
   refine W.len (t := 17) rfl (fun (hn4 : p2.length ≤ maxLen) => ?_)
   refine W.rangeGo H (fun i4 (s4 : (List Int)) => [(1, roL 2 enc_Runner p1), (2, roL 1 enc_Int p2), (3, .lp 3 0), (7, .int .i64 ((i2 : Int))), (8, .buf 508 (s4).length), (13, .int .i64 (((1 : Int) * 2 ^ (((p2.length : Nat) : Int) : Int).toNat))), (14, .int .i64 ((i2 : Int))), (17, roL 1 enc_Int p2), (18, .int .i64 (((p2.length : Nat) : Int))), (19, .int .i64 ((i4 : Int)))]) (fun i4 (s4 : (List Int)) => [(3, .cells [.bool (p0.Test), .int .i64 (p0.District), .int .i64 (p0.Minute), .int .i64 (p0.Limit), .int .i64 (p0.Yes), .int .i64 (p0.No), .int .i64 (p0.Maybe), roL 2 enc_Send p0.Sends]), (508, bufL 3 1 enc_Int s4)]) (.cons .q (.cons .q (.cons .q (.cons .qi (.cons .qb (.cons .qi (.cons .qi (.cons .q (.cons .qi (.cons .qi .nil)))))))))) (.cons .q (.cons .q .nil)) (fun k4 i4 s4 hle4 H1 H2 K0 hK4 => ?_)
   refine W.rg env [1, 2, 3, 7, 8, 13, 14, 17, 18, 19, 20] [3, 508] ?_
   refine W.seq ?_
   refine W.cond rfl (fun hb5 => ?_) (fun hb5 => ?_)
   · have hi4 : i4 < p2.length := by have := of_decide_eq_true hb5; omega
     have H := H1 hi4
     refine W.skip ?_
     refine At.thenC ?_
     refine W.seq ?_
     refine W.block ?_
     refine W.sr env [] [] [1, 2, 3, 7, 8, 9, 10, 13, 14, 17, 18, 19] [3, 508] rfl rfl rfl (.cons (⟨by omega, by omega⟩ : 0 ≤ (i4 : Int) ∧ (i4 : Int) < ((p2.length : Nat) : Int)) .nil) .nil ?_
     obtain ⟨hc6, H⟩ := of_must H
     obtain ⟨hc7, H⟩ := of_must H
     refine W.sr env [] [] [1, 2, 3, 7, 8, 10, 13, 14, 17, 18, 19, 28] [3, 508] rfl rfl rfl (.cons hc6 (.cons hc7 .nil)) .nil ?_
     refine W.cond rfl (fun hb8 => ?_) (fun hb8 => ?_)
     · have H := of_true H hb8
       obtain ⟨hc9, H⟩ := of_must H
       refine W.region env [] [] rfl rfl rfl (.cons (⟨by first | rfl | (simp; done) | omega | (simp; omega), by have := hc9; first | simpa using this | (unfold room at this ⊢; simp at this ⊢; omega)⟩) .nil) .nil (At.keep (ts := [1, 2, 3, 7, 8, 13, 14, 17, 18, 19]) (ids := [3, 508]) rfl rfl ?_)
       refine At.convM (.cons (.refl _) (.cons (y := bufL 3 1 enc_Int (s4 ++ ([(p2.getD i4 default)] : List Int))) (BSim.seg (Seg.push (Seg.refl enc_Int _) (Seg.lit (f := enc_Int) (sz := 1) ([(p2.getD i4 default)] : List Int) rfl rfl (fun _ => rfl)))) .nil)) ?_
       refine At.inb ?_
       refine At.thenC ?_
       refine W.region env [] [] rfl rfl rfl (.cons (by unfold inI; have := hn4; (try unfold maxLen at this); omega) .nil) .nil (At.keep (ts := [1, 2, 3, 7, 8, 13, 14, 17, 18, 19]) (ids := [3, 508]) rfl rfl ?_)
       refine At.thenK (At.keep (ts := [1, 2, 3, 7, 8, 13, 14, 17, 18, 19]) (ids := [3, 508]) rfl rfl ?_)
       exact At.conv (.cons .q (.cons .q (.cons .q (.cons .qi (.cons .qb (.cons .qi (.cons .qi (.cons .q (.cons .qi (.cons .qi .nil)))))))))) (.cons .q (.cons .q .nil)) (hK4 hi4 (s4 ++ ([(p2.getD i4 default)] : List Int)) H)
     · have H := of_false H hb8
       refine W.skip ?_
       refine At.inb ?_
       refine At.thenC ?_
       refine W.region env [] [] rfl rfl rfl (.cons (by unfold inI; have := hn4; (try unfold maxLen at this); omega) .nil) .nil (At.keep (ts := [1, 2, 3, 7, 8, 13, 14, 17, 18, 19]) (ids := [3, 508]) rfl rfl ?_)
       refine At.thenK (At.keep (ts := [1, 2, 3, 7, 8, 13, 14, 17, 18, 19]) (ids := [3, 508]) rfl rfl ?_)
       exact At.conv (.cons .q (.cons .q (.cons .q (.cons .qi (.cons .qb (.cons .qi (.cons .qi (.cons .q (.cons .qi (.cons .qi .nil)))))))))) (.cons .q (.cons .q .nil)) (hK4 hi4 s4 H)
   · have H := H2 (by have := of_decide_eq_false hb5; omega)
     refine W.exit ?_
     refine At.xthen ?_
     refine At.xthen ?_
     refine At.xhere ?_
     refine At.thenC ?_
     refine W.seq ?_
     obtain ⟨y10, hy11, H⟩ := of_bindO H
     refine W.region env [] [⟨.bool (y10), [], 0, []⟩] rfl rfl rfl (.cons (by first | rfl | (simp; done) | omega | (simp; omega)) .nil) (.free (c_fog_few p0 p1 s4 hy11) .nil) (At.keep (ts := [1, 2, 3, 13, 14, 37]) (ids := [3]) rfl rfl ?_)
     refine At.thenC ?_
     refine W.cond rfl (fun hb12 => ?_) (fun hb12 => ?_)
     · have H := of_true H hb12
       refine W.rg env [6] [] ?_
       refine W.ret ?_
       refine At.rinb ?_
       refine At.rthen ?_
       refine At.rthen ?_
       refine At.rinb ?_
       refine At.rthen ?_
       cases H
       exact At.ret env.ty rfl rfl (fun q hq => by cases hq) (.refl _) hval
     · have H := of_false H hb12
       refine W.skip ?_
       refine At.inb ?_
       refine At.thenC ?_
       refine W.region env [] [] rfl rfl rfl (.cons (by unfold inI; have := hn2; (try unfold maxLen at this); omega) .nil) .nil (At.keep (ts := [1, 2, 3, 13, 14]) (ids := [3]) rfl rfl ?_)
       refine At.thenK (At.keep (ts := [1, 2, 3, 13, 14]) (ids := [3]) rfl rfl ?_)
       exact At.conv (.cons .q (.cons .q (.cons .q (.cons .qi (.cons .qi .nil))))) (.cons .q .nil) (hK2 hi2 () H)
 · have H := H2 (by have := of_decide_eq_false hb3; omega)
   refine W.exit ?_
   refine At.xthen ?_
   refine At.xthen ?_
   refine At.xhere ?_
   refine At.thenC ?_
   refine W.rg env [6] [] ?_
   refine W.ret ?_
   cases H
   exact At.ret env.ty rfl rfl (fun q hq => by cases hq) (.refl _) hval
theorem c_slices_Clone_int (p0 : (List Int)) {r : (List Int)} (H : slices_Clone_int p0 = some r) : Ctr Tryz.prog 90 [roL 1 enc_Int p0] (roL 1 enc_Int r) := by
 unfold slices_Clone_int at H
 refine Ctr.of_body (N := 8) Tryz.func90 (by kernel_rfl) (c := _) rfl Tryz.ntmps90 rfl (fun w0 h0 hval => ?_)
 refine W.rg env [0] [] ?_
 refine W.seq ?_
 refine W.rg env [0, 4] [] ?_
 refine W.condNz rfl (fun hz => ?_) ?_
 · obtain rfl : p0 = [] := List.length_eq_zero_iff.1 hz
   obtain ⟨hc1, H⟩ := of_must H
   refine W.rg env [2] [] ?_
   refine W.ret ?_
   refine At.rthen ?_
   cases H
   exact At.ret env.ty rfl rfl (fun q hq => by cases hq) (Sim.nil _ _) hval
 · refine W.skip ?_
   refine At.thenC ?_
   refine W.seq ?_
   obtain ⟨hc1, H⟩ := of_must H
   refine W.region env [5] [] rfl rfl rfl (.cons (⟨by first | rfl | (simp; done) | omega | (simp; omega), by have := hc1; first | simpa using this | (unfold room at this ⊢; simp at this ⊢; omega)⟩) .nil) .nil (At.keep (ts := [2]) (ids := [5]) rfl rfl ?_)
   refine At.convM (.cons (y := bufL 3 1 enc_Int (([] : List Int) ++ p0)) (BSim.seg (Seg.push (Seg.lit (f := enc_Int) (sz := 1) ([] : List Int) rfl rfl (fun _ => rfl)) (Seg.refl enc_Int p0))) .nil) ?_
   refine At.thenC ?_
   refine W.ret ?_
   cases H
   exact At.ret env.ty rfl rfl (fun q hq => by cases hq; exact (by first | rfl | (simp; done) | omega | (simp; omega))) (.refl _) hval
theorem co_slices_Delete_int (p0 : (List Int)) (p1 : Int) (p2 : Int) {r : (List Int)} (H : slices_Delete_int p0 p1 p2 = some r) : CtrO Tryz.prog 89 [.buf 700 (p0).length, .int .i64 (p1), .int .i64 (p2)] [(700, bufL 3 1 enc_Int p0)] (.buf 900 r.length) [(900, bufL 3 1 enc_Int r)] := by
 unfold slices_Delete_int at H
 refine CtrO.of_body (N := 33) Tryz.func89 (by kernel_rfl) (c := _) rfl Tryz.ntmps89 rfl (fun w0 h0 ρb hval hdom => ?_)
 refine W.rg env [0, 1, 2] [700] ?_
 obtain ⟨hc1, H⟩ := of_must H
 refine W.sr env [] [] [0, 1, 2] [700] rfl rfl rfl (.cons (by first | rfl | (simp; done) | omega | (simp; omega)) (.cons (⟨by first | rfl | (simp; done) | omega | (simp; omega), hc1⟩) .nil)) .nil ?_
 refine W.seq ?_
 refine W.rg env [0, 1, 2, 16] [700] ?_
 refine W.cond rfl (fun hb2 => ?_) (fun hb2 => ?_)
 · have H := of_true H hb2
   refine W.rg env [6] [700] ?_
   refine W.ret ?_
   refine At.rthen ?_
   cases H
   exact At.retK env.ty [700] 200 rfl rfl rfl rfl (.cons (.refl _) .nil) (.of_eq (by refine bufEq ?_; first | (simp [copyAt]; done) | omega | (simp [copyAt]; omega) | rfl)) hval hdom rfl
 · have H := of_false H hb2
   refine W.skip ?_
   refine At.thenC ?_
   refine W.sr env [] [] [0, 1, 2, 7] [700] rfl rfl rfl (.cons (by first | rfl | (simp; done) | omega | (simp; omega)) .nil) .nil ?_
   refine W.seq ?_
   obtain ⟨hc3, H⟩ := of_must H
   obtain ⟨hc4, H⟩ := of_must H
   obtain ⟨hc5, H⟩ := of_must H
   refine W.region env [] [] rfl rfl (by first | rfl | kernel_rfl) (.cons (⟨by first | rfl | (simp; done) | omega | (simp; omega), hc3⟩) (.cons (⟨by first | rfl | (simp; done) | omega | (simp; omega), hc4⟩) (.cons (⟨rfl, rfl, by omega, by omega, by omega⟩) .nil))) .nil (At.keep (ts := [0, 7]) (ids := [26]) rfl rfl ?_)
   refine At.convM (.cons (y := bufkL 3 1 p0.length enc_Int (p0.take ((p1).toNat) ++ p0.drop ((p2).toNat))) (BSim.kseg (Seg.moved (f := enc_Int) (l := p0) ((p1).toNat) ((p2).toNat) (by omega) (by omega))) .nil) ?_
   refine At.thenC ?_
   refine W.seq ?_
   obtain ⟨hc6, H⟩ := of_must H
   refine W.region env [] [] rfl rfl rfl (.cons (by first | rfl | (simp; done) | omega | (simp; omega)) (.cons (⟨by first | rfl | (simp; done) | omega | (simp; omega), hc6⟩) (.cons (⟨by first | rfl | (simp; done) | omega | (simp; omega), by first | rfl | (simp; done) | omega | (simp; omega), by first | omega | (simp; omega)⟩) .nil))) .nil (At.keep (ts := [0]) (ids := [26]) rfl rfl ?_)
   refine At.convM (.cons (y := bufkL 3 1 p0.length enc_Int (p0.take ((p1).toNat) ++ p0.drop ((p2).toNat))) (BSim.kseg (Seg.refl enc_Int _)) .nil) ?_
   refine At.thenC ?_
   refine W.rg env [6] [26] ?_
   refine W.ret ?_
   cases H
   exact At.retK env.ty [26] 874 rfl rfl rfl rfl (.cons (.bufk (.refl _)) .nil) (.of_eq (by refine bufEq ?_; first | (simp [copyAt]; done) | omega | (simp [copyAt]; omega) | rfl)) hval hdom rfl
theorem co_slices_Clone_int (p0 : (List Int)) {r : (List Int)} (H : slices_Clone_int p0 = some r) : CtrO Tryz.prog 90 [roL 1 enc_Int p0] [] (.buf 900 r.length) [(900, bufL 3 1 enc_Int r)] := by
 unfold slices_Clone_int at H
 refine CtrO.of_body (N := 8) Tryz.func90 (by kernel_rfl) (c := _) rfl Tryz.ntmps90 rfl (fun w0 h0 ρb hval hdom => ?_)
 refine W.rg env [0] [] ?_
 refine W.seq ?_
 refine W.rg env [0, 4] [] ?_
 refine W.condNz rfl (fun hz => ?_) ?_
 · obtain rfl : p0 = [] := List.length_eq_zero_iff.1 hz
   obtain ⟨hc1, H⟩ := of_must H
   refine W.rg env [2] [] ?_
   refine W.ret ?_
   refine At.rthen ?_
   cases H
   refine At.nilOwn 2 800 3 1 (e := fun i => enc_Int (([] : List Int).getD i default)) rfl rfl ?_
   exact At.retK env.ty [800] 100 rfl rfl rfl rfl (.cons (.refl _) .nil) (.of_eq (by refine bufEq ?_; first | (simp [copyAt]; done) | omega | (simp [copyAt]; omega) | rfl)) hval hdom rfl
 · refine W.skip ?_
   refine At.thenC ?_
   refine W.seq ?_
   obtain ⟨hc1, H⟩ := of_must H
   refine W.region env [5] [] rfl rfl rfl (.cons (⟨by first | rfl | (simp; done) | omega | (simp; omega), by have := hc1; first | simpa using this | (unfold room at this ⊢; simp at this ⊢; omega)⟩) .nil) .nil (At.keep (ts := [2]) (ids := [5]) rfl rfl ?_)
   refine At.convM (.cons (y := bufL 3 1 enc_Int (([] : List Int) ++ p0)) (BSim.seg (Seg.push (Seg.lit (f := enc_Int) (sz := 1) ([] : List Int) rfl rfl (fun _ => rfl)) (Seg.refl enc_Int p0))) .nil) ?_
   refine At.thenC ?_
   refine W.ret ?_
   cases H
   exact At.retK env.ty [5] 895 rfl rfl rfl rfl (.cons (.refl _) .nil) (.of_eq (by refine bufEq ?_; first | (simp [copyAt]; done) | omega | (simp [copyAt]; omega) | rfl)) hval hdom rfl
theorem c_fog_Short (fuel : Nat) (p0 : (List Node)) (p1 : (List Runner)) (p2 : Int) {r : ((List Int) × Int)} (H : fog_Short fuel p0 p1 p2 = some r) : Ctr Tryz.prog 26 [roL 8 enc_Node p0, roL 2 enc_Runner p1, .int .i64 (p2)] (.tup [roL 1 enc_Int r.1, .int .i64 (r.2)]) := by
 unfold fog_Short at H
 refine Ctr.of_body (N := 62) Tryz.func26 (by kernel_rfl) (c := _) rfl Tryz.ntmps26 rfl (fun w0 h0 hval => ?_)
 refine W.rg env [0, 1, 2] [] ?_
 refine W.seq ?_
 obtain ⟨y1, hy2, H⟩ := of_bindO H
 refine W.region env [] [⟨.tup [.agg [.bool (y1.1.Test), .int .i64 (y1.1.District), .int .i64 (y1.1.Minute), .int .i64 (y1.1.Limit), .int .i64 (y1.1.Yes), .int .i64 (y1.1.No), .int .i64 (y1.1.Maybe), roL 2 enc_Send y1.1.Sends], .int .i64 (y1.2)], [], 0, []⟩] rfl rfl rfl .nil (.free (c_fog_leaf p0 p1 p2 hy2) .nil) (At.keep (ts := [1, 8, 9]) (ids := [8]) rfl rfl ?_)
 refine At.thenC ?_
 refine W.seq ?_
 refine W.rg env [1, 8, 9, 23] [8] ?_
 refine W.cond rfl (fun hb3 => ?_) (fun hb3 => ?_)
 · have H := of_true H hb3
   refine W.rg env [6, 7] [] ?_
   refine W.ret ?_
   refine At.rthen ?_
   cases H
   exact At.ret env.ty rfl rfl (fun q hq => by cases hq) (Sim.tupL (.cons (Sim.nil _ _) (.cons (.refl _) .nil))) hval
 · have H := of_false H hb3
   refine W.skip ?_
   refine At.thenC ?_
   refine W.rg env [1, 8, 10] [8] ?_
   refine W.seq ?_
   refine W.rg env [1, 8, 10, 26, 27, 28] [8] ?_
   refine W.block ?_
   refine At.nilOwn 10 510 3 1 (e := fun i => enc_Int (([] : List Int).getD i default)) rfl rfl ?_
   refine At.keep (ts := [1, 8, 10, 26, 27, 28]) (ids := [8, 510]) rfl rfl ?_
   refine W.len (t := 26) rfl (fun (hn4 : y1.1.Sends.length ≤ maxLen) => ?_)
   refine W.rangeGo H (fun i4 (s4 : (List Int)) => [(1, roL 2 enc_Runner p1), (8, .lp 8 0), (10, .buf 510 (s4).length), (26, roL 2 enc_Send y1.1.Sends), (27, .int .i64 (((y1.1.Sends.length : Nat) : Int))), (28, .int .i64 ((i4 : Int)))]) (fun i4 (s4 : (List Int)) => [(8, .cells [.bool (y1.1.Test), .int .i64 (y1.1.District), .int .i64 (y1.1.Minute), .int .i64 (y1.1.Limit), .int .i64 (y1.1.Yes), .int .i64 (y1.1.No), .int .i64 (y1.1.Maybe), roL 2 enc_Send y1.1.Sends]), (510, bufL 3 1 enc_Int s4)]) (.cons .q (.cons .q (.cons .qb (.cons .q (.cons .qi (.cons .qi .nil)))))) (.cons .q (.cons .q .nil)) (fun k4 i4 s4 hle4 H1 H2 K0 hK4 => ?_)
   refine W.rg env [1, 8, 10, 26, 27, 28, 29] [8, 510] ?_
   refine W.seq ?_
   refine W.cond rfl (fun hb5 => ?_) (fun hb5 => ?_)
   · have hi4 : i4 < y1.1.Sends.length := by have := of_decide_eq_true hb5; omega
     have H := H1 hi4
     refine W.skip ?_
     refine At.thenC ?_
     refine W.seq ?_
     refine W.block ?_
     refine W.sr env [] [] [1, 8, 10, 12, 26, 27, 28] [8, 12, 510] rfl rfl rfl (.cons (⟨by omega, by omega⟩ : 0 ≤ (i4 : Int) ∧ (i4 : Int) < ((y1.1.Sends.length : Nat) : Int)) .nil) .nil ?_
     obtain ⟨hc6, H⟩ := of_must H
     refine W.region env [] [] rfl rfl rfl (.cons (⟨by first | rfl | (simp; done) | omega | (simp; omega), by have := hc6; first | simpa using this | (unfold room at this ⊢; simp at this ⊢; omega)⟩) .nil) .nil (At.keep (ts := [1, 8, 10, 26, 27, 28]) (ids := [8, 510]) rfl rfl ?_)
     refine At.convM (.cons (.refl _) (.cons (y := bufL 3 1 enc_Int (s4 ++ ([(y1.1.Sends.getD i4 default).District] : List Int))) (BSim.seg (Seg.push (Seg.refl enc_Int _) (Seg.lit (f := enc_Int) (sz := 1) ([(y1.1.Sends.getD i4 default).District] : List Int) rfl rfl (fun _ => rfl)))) .nil)) ?_
     refine At.inb ?_
     refine At.thenC ?_
     refine W.region env [] [] rfl rfl rfl (.cons (by unfold inI; have := hn4; (try unfold maxLen at this); omega) .nil) .nil (At.keep (ts := [1, 8, 10, 26, 27, 28]) (ids := [8, 510]) rfl rfl ?_)
     refine At.thenK (At.keep (ts := [1, 8, 10, 26, 27, 28]) (ids := [8, 510]) rfl rfl ?_)
     exact At.conv (.cons .q (.cons .q (.cons .qb (.cons .q (.cons .qi (.cons .qi .nil)))))) (.cons .q (.cons .q .nil)) (hK4 hi4 (s4 ++ ([(y1.1.Sends.getD i4 default).District] : List Int)) H)
   · have H := H2 (by have := of_decide_eq_false hb5; omega)
     refine W.exit ?_
     refine At.xthen ?_
     refine At.xthen ?_
     refine At.xhere ?_
     refine At.thenC ?_
     refine W.seq ?_
     refine W.seq ?_
     obtain ⟨y7, hy8, H⟩ := of_bindO H
     refine W.region env [] [⟨.bool (y7), [], 0, []⟩] rfl rfl rfl (.cons (by first | rfl | (simp; done) | omega | (simp; omega)) .nil) (.free (c_fog_some y1.1 p1 s4 hy8) .nil) (At.keep (ts := [1, 8, 10, 42]) (ids := [8, 510]) rfl rfl ?_)
     refine At.thenC ?_
     refine W.cond rfl (fun hb9 => ?_) (fun hb9 => ?_)
     · have H := of_true H hb9
       refine W.rg env [6, 7] [] ?_
       refine W.ret ?_
       refine At.rthen ?_
       cases H
       exact At.ret env.ty rfl rfl (fun q hq => by cases hq) (Sim.tupL (.cons (Sim.nil _ _) (.cons (.refl _) .nil))) hval
     · have H := of_false H hb9
       refine W.skip ?_
       refine At.thenC ?_
       refine W.seq ?_
       obtain ⟨hc10, H⟩ := of_must H
       refine W.sr env [] [] [1, 8, 10, 13] [8, 510] rfl rfl rfl (.cons (by first | rfl | (simp; done) | omega | (simp; omega)) (.cons hc10 .nil)) .nil ?_
       refine W.block ?_
       refine At.freezeA 510 (K := [8]) (ts := [1, 8, 10, 13]) rfl rfl rfl rfl (.cons (by first | rfl | (simp; done) | omega | (simp; omega)) .nil) .nil (fun _ h => h) ?_
       refine At.keep (ts := [1, 8, 10, 13]) (ids := [8]) rfl rfl ?_
       refine W.loopGo H (fun (s11 : Int × (List Int)) => [(1, roL 2 enc_Runner p1), (8, .lp 8 0), (10, roL 1 enc_Int s11.2), (13, .int .i64 (s11.1))]) (fun (s11 : Int × (List Int)) => [(8, .cells [.bool (y1.1.Test), .int .i64 (y1.1.District), .int .i64 (y1.1.Minute), .int .i64 (y1.1.Limit), .int .i64 (y1.1.Yes), .int .i64 (y1.1.No), .int .i64 (y1.1.Maybe), roL 2 enc_Send y1.1.Sends])]) (.cons .q (.cons .q (.cons .q (.cons .qi .nil)))) (.cons .q .nil) (fun k11 s11 H K0 hK11 => ?_)
       refine W.seq ?_
       refine W.rg env [1, 8, 10, 13, 47] [8] ?_
       refine W.cond rfl (fun hb12 => ?_) (fun hb12 => ?_)
       · have H := of_true H hb12
         refine W.skip ?_
         refine At.thenC ?_
         refine W.seq ?_
         refine W.block ?_
         refine W.seq ?_
         obtain ⟨y13, hy14, H⟩ := of_bindO H
         obtain ⟨hc15, H⟩ := of_must H
         obtain ⟨y16, hy17, H⟩ := of_bindO H
         refine W.region env [] [⟨.buf 900 y13.length, [(900, bufL 3 1 enc_Int y13)], 52000, []⟩, ⟨.buf 900 y16.length, [(52900, .dead), (900, bufL 3 1 enc_Int y16)], 56000, []⟩] rfl rfl (by kernel_rfl) (.cons hc15 .nil) (.free ((Ctr.ofO (co_slices_Clone_int s11.2 hy14))) (.free (CtrO.sim (CtrO.at (co_slices_Delete_int y13 s11.1 (s11.1 + 1) hy17) rfl 52900) (.cons .qc (.cons (.refl _) (.cons (.refl _) .nil))) (.cons (.refl _) .nil)) .nil)) (At.keep (ts := [1, 8, 10, 13, 14]) (ids := [8, 56900]) rfl rfl ?_)
         refine At.thenC ?_
         refine W.seq ?_
         obtain ⟨y18, hy19, H⟩ := of_bindO H
         refine W.region env [] [⟨.bool (y18), [], 0, []⟩] rfl rfl rfl (.cons (by first | rfl | (simp; done) | omega | (simp; omega)) .nil) (.free (c_fog_some y1.1 p1 y16 hy19) .nil) (At.keep (ts := [1, 8, 10, 13, 14, 59]) (ids := [8, 56900]) rfl rfl ?_)
         refine At.thenC ?_
         refine W.cond rfl (fun hb20 => ?_) (fun hb20 => ?_)
         · have H := of_true H hb20
           refine W.region env [] [] rfl rfl rfl .nil .nil (At.keep (ts := [1, 8, 10, 13]) (ids := [8, 56900]) rfl rfl ?_)
           refine At.inb ?_
           refine At.thenC ?_
           obtain ⟨hc21, H⟩ := of_must H
           refine W.region env [] [] rfl rfl rfl (.cons hc21 .nil) .nil (At.keep (ts := [1, 8, 10, 13]) (ids := [8, 56900]) rfl rfl ?_)
           refine At.freezeA 56900 (K := [8]) (ts := [1, 8, 10, 13]) rfl rfl rfl rfl (.cons (by first | rfl | (simp; done) | omega | (simp; omega)) .nil) .nil (fun _ h => h) ?_
           refine At.thenK (At.keep (ts := [1, 8, 10, 13]) (ids := [8]) rfl rfl ?_)
           exact At.conv (.cons .q (.cons .q (.cons .q (.cons .qi .nil)))) (.cons .q .nil) (hK11 ((s11.1 - 1), y16) H)
         · have H := of_false H hb20
           refine W.skip ?_
           refine At.inb ?_
           refine At.thenC ?_
           obtain ⟨hc22, H⟩ := of_must H
           refine W.region env [] [] rfl rfl rfl (.cons hc22 .nil) .nil (At.keep (ts := [1, 8, 10, 13]) (ids := [8]) rfl rfl ?_)
           refine At.thenK (At.keep (ts := [1, 8, 10, 13]) (ids := [8]) rfl rfl ?_)
           exact At.conv (.cons .q (.cons .q (.cons .q (.cons .qi .nil)))) (.cons .q .nil) (hK11 ((s11.1 - 1), s11.2) H)
       · have H := of_false H hb12
         refine W.exit ?_
         refine At.xthen ?_
         refine At.xthen ?_
         refine At.xhere ?_
         refine At.thenC ?_
         refine W.rg env [6, 7] [] ?_
         refine W.ret ?_
         cases H
         exact At.ret env.ty rfl rfl (fun q hq => by cases hq) (.refl _) hval
theorem c_fog_Moved_1 (p0 : Report) (c0 : Int) : Ctr Tryz.prog 65 [.agg [.int .i64 (p0.Source), .int .i64 (p0.District), .int .i64 (p0.Night), .int .i64 (p0.From), .int .i64 (p0.To), .int .i64 (p0.Sight.Lo), .int .i64 (p0.Sight.Hi), .int .i64 (p0.Known), .int .i64 (p0.Until)], .rp [.int .i64 (c0)]] (.bool ((fog_Moved_1 p0 c0))) := by
 obtain ⟨r, H⟩ : ∃ r, fog_Moved_1 p0 c0 = r := ⟨_, rfl⟩
 rw [H]
 unfold fog_Moved_1 at H
 refine Ctr.of_body (N := 8) Tryz.func65 (by kernel_rfl) (c := _) rfl Tryz.ntmps65 rfl (fun w0 h0 hval => ?_)
 refine W.rg env [1, 2] [2] ?_
 refine W.rg env [3] [] ?_
 refine W.ret ?_
 cases H
 exact At.ret env.ty rfl rfl (fun q hq => by cases hq) (.refl _) hval
theorem co_slices_Delete_Report (p0 : (List Report)) (p1 : Int) (p2 : Int) {r : (List Report)} (H : slices_Delete_Report p0 p1 p2 = some r) : CtrO Tryz.prog 66 [.buf 700 (p0).length, .int .i64 (p1), .int .i64 (p2)] [(700, bufL 90 9 enc_Report p0)] (.buf 900 r.length) [(900, bufL 90 9 enc_Report r)] := by
 unfold slices_Delete_Report at H
 refine CtrO.of_body (N := 33) Tryz.func66 (by kernel_rfl) (c := _) rfl Tryz.ntmps66 rfl (fun w0 h0 ρb hval hdom => ?_)
 refine W.rg env [0, 1, 2] [700] ?_
 obtain ⟨hc1, H⟩ := of_must H
 refine W.sr env [] [] [0, 1, 2] [700] rfl rfl rfl (.cons (by first | rfl | (simp; done) | omega | (simp; omega)) (.cons (⟨by first | rfl | (simp; done) | omega | (simp; omega), hc1⟩) .nil)) .nil ?_
 refine W.seq ?_
 refine W.rg env [0, 1, 2, 16] [700] ?_
 refine W.cond rfl (fun hb2 => ?_) (fun hb2 => ?_)
 · have H := of_true H hb2
   refine W.rg env [6] [700] ?_
   refine W.ret ?_
   refine At.rthen ?_
   cases H
   exact At.retK env.ty [700] 200 rfl rfl rfl rfl (.cons (.refl _) .nil) (.of_eq (by refine bufEq ?_; first | (simp [copyAt]; done) | omega | (simp [copyAt]; omega) | rfl)) hval hdom rfl
 · have H := of_false H hb2
   refine W.skip ?_
   refine At.thenC ?_
   refine W.sr env [] [] [0, 1, 2, 7] [700] rfl rfl rfl (.cons (by first | rfl | (simp; done) | omega | (simp; omega)) .nil) .nil ?_
   refine W.seq ?_
   obtain ⟨hc3, H⟩ := of_must H
   obtain ⟨hc4, H⟩ := of_must H
   obtain ⟨hc5, H⟩ := of_must H
   refine W.region env [] [] rfl rfl (by first | rfl | kernel_rfl) (.cons (⟨by first | rfl | (simp; done) | omega | (simp; omega), hc3⟩) (.cons (⟨by first | rfl | (simp; done) | omega | (simp; omega), hc4⟩) (.cons (⟨rfl, rfl, by omega, by omega, by omega⟩) .nil))) .nil (At.keep (ts := [0, 7]) (ids := [26]) rfl rfl ?_)
   refine At.convM (.cons (y := bufkL 90 9 p0.length enc_Report (p0.take ((p1).toNat) ++ p0.drop ((p2).toNat))) (BSim.kseg (Seg.moved (f := enc_Report) (l := p0) ((p1).toNat) ((p2).toNat) (by omega) (by omega))) .nil) ?_
   refine At.thenC ?_
   refine W.seq ?_
   obtain ⟨hc6, H⟩ := of_must H
   refine W.region env [] [] rfl rfl rfl (.cons (by first | rfl | (simp; done) | omega | (simp; omega)) (.cons (⟨by first | rfl | (simp; done) | omega | (simp; omega), hc6⟩) (.cons (⟨by first | rfl | (simp; done) | omega | (simp; omega), by first | rfl | (simp; done) | omega | (simp; omega), by first | omega | (simp; omega)⟩) .nil))) .nil (At.keep (ts := [0]) (ids := [26]) rfl rfl ?_)
   refine At.convM (.cons (y := bufkL 90 9 p0.length enc_Report (p0.take ((p1).toNat) ++ p0.drop ((p2).toNat))) (BSim.kseg (Seg.refl enc_Report _)) .nil) ?_
   refine At.thenC ?_
   refine W.rg env [6] [26] ?_
   refine W.ret ?_
   cases H
   exact At.retK env.ty [26] 874 rfl rfl rfl rfl (.cons (.bufk (.refl _)) .nil) (.of_eq (by refine bufEq ?_; first | (simp [copyAt]; done) | omega | (simp [copyAt]; omega) | rfl)) hval hdom rfl
theorem c_fog_Moved (fuel : Nat) (p0 : (List Node)) (p1 : (List Report)) (p2 : Int) (p3 : Int) (p4 : Int) {r : (Bool × (List Int) × Int)} (H : fog_Moved fuel p0 p1 p2 p3 p4 = some r) : Ctr Tryz.prog 12 [roL 8 enc_Node p0, roL 9 enc_Report p1, .int .i64 (p2), .int .i64 (p3), .int .i64 (p4)] (.tup [.bool (r.1), roL 1 enc_Int r.2.1, .int .i64 (r.2.2)]) := by
 unfold fog_Moved at H
 refine Ctr.of_body (N := 119) Tryz.func12 (by kernel_rfl) (c := _) rfl Tryz.ntmps12 rfl (fun w0 h0 hval => ?_)
 refine W.rg env [0, 1, 3, 4, 7] [7] ?_
 refine W.seq ?_
 refine W.seq ?_
 obtain ⟨y1, hy2, H⟩ := of_bindO H
 refine W.region env [] [⟨.int .i64 (y1), [], 0, []⟩] rfl rfl rfl .nil (.free (c_fog_asked p0 p1 p3 p4 hy2) .nil) (At.keep (ts := [0, 1, 3, 4, 7, 13]) (ids := [7]) rfl rfl ?_)
 refine At.thenC ?_
 refine W.rg env [0, 1, 3, 4, 7, 13, 32] [7] ?_
 refine W.cond rfl (fun hb3 => ?_) (fun hb3 => ?_)
 · have H := of_true H hb3
   refine W.rg env [10, 11, 12] [] ?_
   refine W.ret ?_
   refine At.rthen ?_
   cases H
   exact At.ret env.ty rfl rfl (fun q hq => by cases hq) (Sim.tupL (.cons (.refl _) (.cons (Sim.nil _ _) (.cons (.refl _) .nil)))) hval
 · have H := of_false H hb3
   refine W.skip ?_
   refine At.thenC ?_
   refine W.seq ?_
   obtain ⟨y4, hy5, H⟩ := of_bindO H
   refine W.region env [] [⟨.int .i64 (y4), [], 0, []⟩] rfl rfl rfl .nil (.free (c_slices_IndexFunc_Report p1 (fun x0 => some (fog_Moved_1 x0 p2)) 65 [] ([.rp [.int .i64 (p2)]]) (fun x0 r h => by cases h; exact c_fog_Moved_1 x0 p2) hy5) .nil) (At.keep (ts := [0, 1, 3, 4, 14]) (ids := []) rfl rfl ?_)
   refine At.thenC ?_
   refine W.seq ?_
   refine W.rg env [0, 1, 3, 4, 14, 38] [] ?_
   refine W.cond rfl (fun hb6 => ?_) (fun hb6 => ?_)
   · have H := of_true H hb6
     refine W.rg env [10, 11, 12] [] ?_
     refine W.ret ?_
     refine At.rthen ?_
     cases H
     exact At.ret env.ty rfl rfl (fun q hq => by cases hq) (Sim.tupL (.cons (.refl _) (.cons (Sim.nil _ _) (.cons (.refl _) .nil)))) hval
   · have H := of_false H hb6
     refine W.skip ?_
     refine At.thenC ?_
     refine W.seq ?_
     obtain ⟨y7, hy8, H⟩ := of_bindO H
     obtain ⟨hc9, H⟩ := of_must H
     obtain ⟨y10, hy11, H⟩ := of_bindO H
     refine W.region env [] [⟨.buf 900 y7.length, [(900, bufL 90 9 enc_Report y7)], 41000, []⟩, ⟨.buf 900 y10.length, [(41900, .dead), (900, bufL 90 9 enc_Report y10)], 45000, []⟩] rfl rfl (by kernel_rfl) (.cons hc9 .nil) (.free ((Ctr.ofO (co_slices_Clone_Report p1 hy8))) (.free (CtrO.sim (CtrO.at (co_slices_Delete_Report y7 y4 (y4 + 1) hy11) rfl 41900) (.cons .qc (.cons (.refl _) (.cons (.refl _) .nil))) (.cons (.refl _) .nil)) .nil)) (At.keep (ts := [0, 1, 3, 4, 14, 15]) (ids := [45900]) rfl rfl ?_)
     refine At.thenC ?_
     refine W.seq ?_
     refine At.freezeA 45900 (K := []) (ts := [0, 1, 3, 4, 14, 15]) rfl rfl rfl rfl (.cons (by first | rfl | (simp; done) | omega | (simp; omega)) .nil) .nil (fun _ h => h) ?_
     obtain ⟨y12, hy13, H⟩ := of_bindO H
     obtain ⟨y14, hy15, H⟩ := of_bindO H
     refine W.region env [] [⟨roL 1 enc_Int y12, [], 0, []⟩, ⟨roL 1 enc_Int y14, [], 0, []⟩] rfl rfl rfl .nil (.free (c_fog_path fuel p0 p1 p3 hy13) (.free (c_fog_path fuel p0 y10 p3 hy15) .nil)) (At.keep (ts := [1, 3, 4, 14, 15, 16, 17]) (ids := []) rfl rfl ?_)
     refine At.thenC ?_
     refine W.seq ?_
     obtain ⟨hc16, H⟩ := of_must H
     obtain ⟨y17, hy18, H⟩ := of_bindO H
     obtain ⟨hc19, H⟩ := of_must H
     obtain ⟨y20, hy21, H⟩ := of_bindO H
     refine W.region env [] [⟨roL 9 enc_Report y17, [], 0, []⟩, ⟨roL 9 enc_Report y20, [], 0, []⟩] rfl rfl (by kernel_rfl) (.cons hc16 (.cons hc19 .nil)) (.free (c_fog_see fuel p1 ((p1.getD (y4).toNat default).District) p3 p4 hy18) (.free (c_fog_see fuel y10 ((p1.getD (y4).toNat default).District) p3 p4 hy21) .nil)) (At.keep (ts := [16, 17, 18, 19]) (ids := []) rfl rfl ?_)
     refine At.thenC ?_
     refine W.seq ?_
     obtain ⟨y22, hy23, H⟩ := of_bindO H
     refine W.region env [] [⟨.tup [roL 1 enc_Int y22.1, .bool (y22.2)], [], 0, []⟩] rfl rfl rfl .nil (.free (c_fog_view__pair y17 hy23) .nil) (At.keep (ts := [16, 17, 18, 19, 21]) (ids := []) rfl rfl ?_)
     refine At.thenC ?_
     refine W.seq ?_
     obtain ⟨y24, hy25, H⟩ := of_bindO H
     refine W.region env [] [⟨.tup [roL 1 enc_Int y24.1, .bool (y24.2)], [], 0, []⟩] rfl rfl rfl .nil (.free (c_fog_view__pair y20 hy25) .nil) (At.keep (ts := [16, 17, 18, 19, 21, 23]) (ids := []) rfl rfl ?_)
     refine At.thenC ?_
     refine W.rg env [16, 17, 18, 19, 21, 23, 24] [] ?_
     refine W.seq ?_
     refine W.rg env [16, 17, 18, 19, 21, 23, 24, 81] [] ?_
     refine W.block ?_
     refine At.nilOwn 24 524 3 1 (e := fun i => enc_Int (([] : List Int).getD i default)) rfl rfl ?_
     refine At.keep (ts := [16, 17, 18, 19, 21, 23, 24, 81]) (ids := [524]) rfl rfl ?_
     have hn26 : 1440 ≤ 9223372036854775807 := by decide
     refine W.rangeGo H (fun i26 (s26 : (List Int)) => [(16, roL 1 enc_Int y12), (17, roL 1 enc_Int y14), (18, roL 9 enc_Report y17), (19, roL 9 enc_Report y20), (21, .bool (y22.2)), (23, .bool (y24.2)), (24, .buf 524 (s26).length), (81, .int .i64 ((i26 : Int)))]) (fun i26 (s26 : (List Int)) => [(524, bufL 3 1 enc_Int s26)]) (.cons .q (.cons .q (.cons .q (.cons .q (.cons .q (.cons .q (.cons .qb (.cons .qi .nil)))))))) (.cons .q .nil) (fun k26 i26 s26 hle26 H1 H2 K0 hK26 => ?_)
     refine W.rg env [16, 17, 18, 19, 21, 23, 24, 81, 82] [524] ?_
     refine W.seq ?_
     refine W.cond rfl (fun hb27 => ?_) (fun hb27 => ?_)
     · have hi26 : i26 < 1440 := by have := of_decide_eq_true hb27; omega
       have H := H1 hi26
       refine W.skip ?_
       refine At.thenC ?_
       refine W.seq ?_
       refine W.block ?_
       refine W.rg env [16, 17, 18, 19, 21, 23, 24, 25, 81] [524] ?_
       refine W.seq ?_
       obtain ⟨y28, hy29, H⟩ := of_bindO H
       obtain ⟨y30, hy31, H⟩ := of_bindO H
       refine W.region env [] [⟨.agg [.int .i64 (y28.Lo), .int .i64 (y28.Hi)], [], 0, []⟩, ⟨.agg [.int .i64 (y30.Lo), .int .i64 (y30.Hi)], [], 0, []⟩] rfl rfl rfl (.cons (fun h => h) (.cons (fun h => h) (.cons (fun h => h) (.cons (fun h => h) (.cons (fun h => h) (.cons (fun h => h) (.cons (fun h => h) (.cons (fun h => h) (.cons (fun h => h) (.cons (fun hW h => by revert hW h; first | (simp +contextual; done) | grind) (.cons (fun h => by rw [h]; rfl) .nil))))))))))) (.on (fun hW => c_fog_view__sight y17 (i26 : Int) (of_true hy29 hW)) (.on (fun hW => c_fog_view__sight y20 (i26 : Int) (of_true hy31 hW)) .nil)) (At.keep (ts := [16, 17, 18, 19, 21, 23, 24, 25, 81, 99]) (ids := [524]) rfl rfl ?_)
       refine At.thenC ?_
       refine W.cond rfl (fun hb32 => ?_) (fun hb32 => ?_)
       · have H := of_true H hb32
         obtain ⟨hc33, H⟩ := of_must H
         refine W.region env [] [] rfl rfl rfl (.cons (⟨by first | rfl | (simp; done) | omega | (simp; omega), by have := hc33; first | simpa using this | (unfold room at this ⊢; simp at this ⊢; omega)⟩) .nil) .nil (At.keep (ts := [16, 17, 18, 19, 21, 23, 24, 81]) (ids := [524]) rfl rfl ?_)
         refine At.convM (.cons (y := bufL 3 1 enc_Int (s26 ++ ([(i26 : Int)] : List Int))) (BSim.seg (Seg.push (Seg.refl enc_Int _) (Seg.lit (f := enc_Int) (sz := 1) ([(i26 : Int)] : List Int) rfl rfl (fun _ => rfl)))) .nil) ?_
         refine At.inb ?_
         refine At.thenC ?_
         refine W.region env [] [] rfl rfl rfl (.cons (by unfold inI; have := hn26; (try unfold maxLen at this); omega) .nil) .nil (At.keep (ts := [16, 17, 18, 19, 21, 23, 24, 81]) (ids := [524]) rfl rfl ?_)
         refine At.thenK (At.keep (ts := [16, 17, 18, 19, 21, 23, 24, 81]) (ids := [524]) rfl rfl ?_)
         exact At.conv (.cons .q (.cons .q (.cons .q (.cons .q (.cons .q (.cons .q (.cons .qb (.cons .qi .nil)))))))) (.cons .q .nil) (hK26 hi26 (s26 ++ ([(i26 : Int)] : List Int)) H)
       · have H := of_false H hb32
         refine W.skip ?_
         refine At.inb ?_
         refine At.thenC ?_
         refine W.region env [] [] rfl rfl rfl (.cons (by unfold inI; have := hn26; (try unfold maxLen at this); omega) .nil) .nil (At.keep (ts := [16, 17, 18, 19, 21, 23, 24, 81]) (ids := [524]) rfl rfl ?_)
         refine At.thenK (At.keep (ts := [16, 17, 18, 19, 21, 23, 24, 81]) (ids := [524]) rfl rfl ?_)
         exact At.conv (.cons .q (.cons .q (.cons .q (.cons .q (.cons .q (.cons .q (.cons .qb (.cons .qi .nil)))))))) (.cons .q .nil) (hK26 hi26 s26 H)
     · have H := H2 (by have := of_decide_eq_false hb27; omega)
       refine W.exit ?_
       refine At.xthen ?_
       refine At.xthen ?_
       refine At.xhere ?_
       refine At.thenC ?_
       obtain ⟨hc34, H⟩ := of_must H
       obtain ⟨hc35, H⟩ := of_must H
       obtain ⟨hc36, H⟩ := of_must H
       obtain ⟨hc37, H⟩ := of_must H
       refine W.sr env [] [] [10, 11, 12] [524] rfl rfl (by first | rfl | kernel_rfl) (.cons hc34 (.cons hc35 (.cons hc36 (.cons hc37 .nil)))) .nil ?_
       refine W.ret ?_
       cases H
       exact At.ret env.ty rfl rfl (fun q hq => by cases hq; exact (by first | rfl | (simp; done) | omega | (simp; omega))) (.refl _) hval
theorem c_gasolierlaw05_sane (fuel : Nat) {r : Bool} (H : gasolierlaw05_sane fuel = some r) : Ctr Tryz.prog 15 [] (.bool (r)) := by
 unfold gasolierlaw05_sane at H
 refine Ctr.of_body (N := 177) Tryz.func15 (by kernel_rfl) (c := _) rfl Tryz.ntmps15 rfl (fun w0 h0 hval => ?_)
 refine W.rg env [] [] ?_
 refine W.sr env [] [⟨roL 9 enc_Report (gasolierlaw05_reports), [], 0, []⟩] [1] [] rfl rfl rfl .nil (.free (c_gasolierlaw05_reports) .nil) ?_
 refine W.sr env [] [⟨roL 8 enc_Node (gasolierlaw05_policy), [], 0, []⟩] [1, 2] [] rfl rfl rfl .nil (.free (c_gasolierlaw05_policy) .nil) ?_
 refine W.sr env [] [⟨roL 2 enc_Runner (gasolierlaw05_runners), [], 0, []⟩] [1, 2, 3] [] rfl rfl rfl .nil (.free (c_gasolierlaw05_runners) .nil) ?_
 refine W.seq ?_
 obtain ⟨hc1, H⟩ := of_must H
 obtain ⟨hc2, H⟩ := of_must H
 refine W.region env [] [] rfl rfl (by first | rfl | kernel_rfl) (.cons hc1 (.cons hc2 .nil)) .nil (At.keep (ts := [1, 2, 3, 4]) (ids := []) rfl rfl ?_)
 refine At.slot (t := 4) (v := roL 2 enc_Runner ([((gasolierlaw05_runners).getD 0 default), ((gasolierlaw05_runners).getD 2 default)] : List Runner)) (Sim.lit (f := enc_Runner) ([((gasolierlaw05_runners).getD 0 default), ((gasolierlaw05_runners).getD 2 default)] : List Runner) rfl rfl (fun _ => rfl)) ?_
 refine At.thenC ?_
 refine W.seq ?_
 obtain ⟨y3, hy4, H⟩ := of_bindO H
 refine W.region env [] [⟨.tup [.agg [.int .i64 (y3.1.Lo), .int .i64 (y3.1.Hi)], .int .i64 (y3.2)], [], 0, []⟩] rfl rfl rfl .nil (.free (c_fog_Sight fuel (gasolierlaw05_reports) 1 2 450 3400 hy4) .nil) (At.keep (ts := [1, 2, 3, 4, 5, 6]) (ids := [5]) rfl rfl ?_)
 refine At.thenC ?_
 refine W.seq ?_
 obtain ⟨y5, hy6, H⟩ := of_bindO H
 refine W.region env [] [⟨.tup [.int .i64 (y5.1), .int .i64 (y5.2)], [], 0, []⟩] rfl rfl rfl .nil (.free (c_fog_Below fuel (gasolierlaw05_reports) 1 2 450 200 3300 hy6) .nil) (At.keep (ts := [1, 2, 3, 4, 5, 6, 7, 8]) (ids := [5]) rfl rfl ?_)
 refine At.thenC ?_
 refine W.seq ?_
 obtain ⟨y7, hy8, H⟩ := of_bindO H
 refine W.region env [] [⟨.tup [roL 1 enc_Int y7.1, .int .i64 (y7.2)], [], 0, []⟩] rfl rfl rfl .nil (.free (c_fog_Clash fuel (gasolierlaw05_reports) 1 2 3500 hy8) .nil) (At.keep (ts := [1, 2, 3, 4, 5, 6, 7, 8, 9, 10]) (ids := [5]) rfl rfl ?_)
 refine At.thenC ?_
 refine W.seq ?_
 obtain ⟨y9, hy10, H⟩ := of_bindO H
 refine W.region env [] [⟨.tup [.agg [.int .i64 (y9.1.Lo), .int .i64 (y9.1.Hi)], .int .i64 (y9.2)], [], 0, []⟩] rfl rfl rfl .nil (.free (c_fog_Worst fuel (gasolierlaw05_reports) 1 2 (⟨300, 600⟩ : Range) 3400 hy10) .nil) (At.keep (ts := [1, 2, 3, 4, 5, 6, 7, 8, 9, 10, 11, 12]) (ids := [5, 11]) rfl rfl ?_)
 refine At.thenC ?_
 refine W.seq ?_
 obtain ⟨y11, hy12, H⟩ := of_bindO H
 refine W.region env [] [⟨.tup [roL 1 enc_Int y11.1, .int .i64 (y11.2)], [], 0, []⟩] rfl rfl rfl .nil (.free (c_fog_Path fuel (gasolierlaw05_policy) (gasolierlaw05_reports) 2 hy12) .nil) (At.keep (ts := [1, 2, 3, 4, 5, 6, 7, 8, 9, 10, 11, 12, 13, 14]) (ids := [5, 11]) rfl rfl ?_)
 refine At.thenC ?_
 refine W.seq ?_
 obtain ⟨y13, hy14, H⟩ := of_bindO H
 refine W.region env [] [⟨.tup [roL 1 enc_Int y13.1, .int .i64 (y13.2)], [], 0, []⟩] rfl rfl rfl .nil (.free (c_fog_Possible fuel (gasolierlaw05_policy) (gasolierlaw05_reports) 2 3300 hy14) .nil) (At.keep (ts := [1, 2, 3, 4, 5, 6, 7, 8, 9, 10, 11, 12, 13, 14, 15, 16]) (ids := [5, 11]) rfl rfl ?_)
 refine At.thenC ?_
 refine W.seq ?_
 obtain ⟨y15, hy16, H⟩ := of_bindO H
 refine W.region env [] [⟨.tup [roL 1 enc_Int y15.1, .int .i64 (y15.2)], [], 0, []⟩] rfl rfl rfl .nil (.free (c_fog_Assign fuel (gasolierlaw05_policy) (gasolierlaw05_runners) 1 hy16) .nil) (At.keep (ts := [1, 2, 4, 5, 6, 7, 8, 9, 10, 11, 12, 13, 14, 15, 16, 17, 18]) (ids := [5, 11]) rfl rfl ?_)
 refine At.thenC ?_
 refine W.seq ?_
 obtain ⟨y17, hy18, H⟩ := of_bindO H
 refine W.region env [] [⟨.tup [roL 1 enc_Int y17.1, .int .i64 (y17.2)], [], 0, []⟩] rfl rfl rfl .nil (.free (c_fog_Short fuel (gasolierlaw05_policy) ([((gasolierlaw05_runners).getD 0 default), ((gasolierlaw05_runners).getD 2 default)] : List Runner) 1 hy18) .nil) (At.keep (ts := [1, 2, 5, 6, 7, 8, 9, 10, 11, 12, 13, 14, 15, 16, 17, 18, 19, 20]) (ids := [5, 11]) rfl rfl ?_)
 refine At.thenC ?_
 refine W.seq ?_
 obtain ⟨y19, hy20, H⟩ := of_bindO H
 refine W.region env [] [⟨.tup [.bool (y19.1), roL 1 enc_Int y19.2.1, .int .i64 (y19.2.2)], [], 0, []⟩] rfl rfl rfl .nil (.free (c_fog_Moved fuel (gasolierlaw05_policy) (gasolierlaw05_reports) 2 2 3400 hy20) .nil) (At.keep (ts := [5, 6, 7, 8, 9, 10, 11, 12, 13, 14, 15, 16, 17, 18, 19, 20, 21, 22, 23]) (ids := [5, 11]) rfl rfl ?_)
 refine At.thenC ?_
 refine W.sr env [] [] [5, 7, 9, 11, 13, 15, 17, 19, 21, 22, 24] [5, 11] rfl rfl rfl (.cons (fun h => h) (.cons (fun h => h) (.cons (fun h => h) (.cons (fun h => h) (.cons (fun h => h) (.cons (fun h => h) (.cons (fun h => h) (.cons (fun h => h) (.cons (fun h => h) (.cons (fun h => h) (.cons (fun h => h) (.cons (fun h => h) (.cons (fun h => h) (.cons (fun h => h) (.cons (fun h => h) (.cons (fun h => h) .nil)))))))))))))))) .nil ?_
 refine W.seq ?_
 obtain ⟨y21, hy22, H⟩ := of_bindO H
 obtain ⟨y23, hy24, H⟩ := of_bindO H
 refine W.region env [] [⟨.bool (y21), [], 0, []⟩, ⟨.bool (y23), [], 0, []⟩] rfl rfl rfl (.cons (fun h => h) (.cons (fun h => h) (.cons (fun h => h) (.cons (fun h => h) (.cons (fun h => h) (.cons (fun h => h) (.cons (fun h => h) (.cons (fun h => h) (.cons (fun h => h) (.cons (fun h => h) (.cons (fun h => h) .nil))))))))))) (.on (fun hW => Ctr.sim (.cons (.refl _) (.cons (Sim.lit (f := enc_Int) ([2, 3] : List Int) rfl rfl (fun _ => rfl)) .nil)) (c_gasolierref05_Same fuel y7.1 ([2, 3] : List Int) (of_true hy22 hW))) (.on (fun hW => Ctr.sim (.cons (.refl _) (.cons (Sim.lit (f := enc_Int) ([0, 1] : List Int) rfl rfl (fun _ => rfl)) .nil)) (c_gasolierref05_Same fuel y11.1 ([0, 1] : List Int) (of_true hy24 hW))) .nil)) (At.keep (ts := [15, 17, 19, 21, 22, 24, 25]) (ids := []) rfl rfl ?_)
 refine At.thenC ?_
 refine W.seq ?_
 obtain ⟨y25, hy26, H⟩ := of_bindO H
 obtain ⟨y27, hy28, H⟩ := of_bindO H
 obtain ⟨y29, hy30, H⟩ := of_bindO H
 obtain ⟨hc31, H⟩ := of_must H
 refine W.region env [] [⟨.bool (y25), [], 0, []⟩, ⟨.bool (y27), [], 0, []⟩, ⟨.bool (y29), [], 0, []⟩] rfl rfl rfl (.cons (fun h => h) (.cons (fun h => h) (.cons (fun h => h) (.cons (fun h => h) (.cons (fun h => h) (.cons (fun h => h) (.cons (fun h => h) (.cons (fun h => h) (.cons (fun h => h) (.cons (fun h => h) (.cons (fun h => h) (.cons (fun h => h) (.cons (fun h => h) (.cons (fun h => h) (.cons hc31 (.cons (fun h => h) (.cons (fun h => h) (.cons (fun h => h) (.cons (fun h => h) .nil))))))))))))))))))) (.on (fun hW => Ctr.sim (.cons (.refl _) (.cons (Sim.lit (f := enc_Int) ([1, 2, 3] : List Int) rfl rfl (fun _ => rfl)) .nil)) (c_gasolierref05_Same fuel y13.1 ([1, 2, 3] : List Int) (of_true hy26 hW))) (.on (fun hW => Ctr.sim (.cons (.refl _) (.cons (Sim.lit (f := enc_Int) ([10, 11, 12] : List Int) rfl rfl (fun _ => rfl)) .nil)) (c_gasolierref05_Same fuel y15.1 ([10, 11, 12] : List Int) (of_true hy28 hW))) (.on (fun hW => Ctr.sim (.cons (.refl _) (.cons (Sim.lit (f := enc_Int) ([1] : List Int) rfl rfl (fun _ => rfl)) .nil)) (c_gasolierref05_Same fuel y17.1 ([1] : List Int) (of_true hy30 hW))) .nil))) (At.keep (ts := [0]) (ids := []) rfl rfl ?_)
 refine At.thenC ?_
 refine W.ret ?_
 cases H
 exact At.ret env.ty rfl rfl (fun q hq => by cases hq) (.refl _) hval
theorem c_gasolierlaw05_FogReports (fuel : Nat) (p0 : (List Report)) (p1 : Report) (p2 : Int) {r : Bool} (H : gasolierlaw05_FogReports fuel p0 p1 p2 = some r) : Ctr Tryz.prog 9 [roL 9 enc_Report p0, .agg [.int .i64 (p1.Source), .int .i64 (p1.District), .int .i64 (p1.Night), .int .i64 (p1.From), .int .i64 (p1.To), .int .i64 (p1.Sight.Lo), .int .i64 (p1.Sight.Hi), .int .i64 (p1.Known), .int .i64 (p1.Until)], .int .i64 (p2)] (.bool (r)) := by
 unfold gasolierlaw05_FogReports at H
 refine Ctr.of_body (N := 74) Tryz.func9 (by kernel_rfl) (c := _) rfl Tryz.ntmps9 rfl (fun w0 h0 hval => ?_)
 refine W.rg env [0, 2, 4] [4] ?_
 refine W.seq ?_
 obtain ⟨y1, hy2, H⟩ := of_bindO H
 refine W.region env [] [⟨.tup [roL 9 enc_Report y1.1, .int .i64 (y1.2)], [], 0, []⟩] rfl rfl rfl .nil (.free (c_fog_Add fuel p0 p1 hy2) .nil) (At.keep (ts := [0, 2, 4, 7, 8]) (ids := [4]) rfl rfl ?_)
 refine At.thenC ?_
 refine W.seq ?_
 obtain ⟨y3, hy4, H⟩ := of_bindO H
 refine W.region env [] [⟨.tup [roL 9 enc_Report y3.1, .int .i64 (y3.2)], [], 0, []⟩] rfl rfl rfl .nil (.free (c_gasolierref05_Add fuel p0 p1 hy4) .nil) (At.keep (ts := [0, 2, 4, 7, 8, 9, 10]) (ids := [4]) rfl rfl ?_)
 refine At.thenC ?_
 refine W.seq ?_
 obtain ⟨y5, hy6, H⟩ := of_bindO H
 refine W.region env [] [⟨.tup [roL 1 enc_Int y5.1, .int .i64 (y5.2)], [], 0, []⟩] rfl rfl rfl .nil (.free (c_fog_Counting p0 p2 hy6) .nil) (At.keep (ts := [0, 2, 4, 7, 8, 9, 10, 11, 12]) (ids := [4]) rfl rfl ?_)
 refine At.thenC ?_
 refine W.seq ?_
 obtain ⟨y7, hy8, H⟩ := of_bindO H
 refine W.region env [] [⟨.tup [roL 1 enc_Int y7.1, .int .i64 (y7.2)], [], 0, []⟩] rfl rfl rfl .nil (.free (c_gasolierref05_Counting fuel p0 p2 hy8) .nil) (At.keep (ts := [0, 4, 7, 8, 9, 10, 11, 12, 13, 14]) (ids := [4]) rfl rfl ?_)
 refine At.thenC ?_
 refine W.seq ?_
 obtain ⟨y9, hy10, H⟩ := of_bindO H
 obtain ⟨y11, hy12, H⟩ := of_bindO H
 obtain ⟨y13, hy14, H⟩ := of_bindO H
 obtain ⟨y15, hy16, H⟩ := of_bindO H
 obtain ⟨y17, hy18, H⟩ := of_bindO H
 refine W.region env [] [⟨.bool (y9), [], 0, []⟩, ⟨.bool (y11), [], 0, []⟩, ⟨.int .i64 ((fog_CheckReport p1)), [], 0, []⟩, ⟨.int .i64 ((gasolierref05_CheckReport p1)), [], 0, []⟩, ⟨.int .i64 (y13), [], 0, []⟩, ⟨.int .i64 (y15), [], 0, []⟩, ⟨.bool (y17), [], 0, []⟩] rfl rfl (by kernel_rfl) (.cons (fun h => h) (.cons (fun h => h) (.cons (fun h => h) (.cons (fun h => h) (.cons (fun h => h) (.cons (fun h => h) (.cons (fun h => h) (.cons (fun h => h) (.cons (fun h => h) (.cons (fun h => h) (.cons (fun h => h) (.cons (fun h => h) (.cons (fun h => h) (.cons (fun h => h) (.cons (fun h => h) (.cons (fun h => h) (.cons (fun h => h) (.cons (fun h => h) (.cons (fun h => h) (.cons (fun h => h) .nil)))))))))))))))))))) (.free (c_gasolierref05_SameReports fuel y1.1 y3.1 hy10) (.on (fun hW => c_gasolierref05_Same fuel y5.1 y7.1 (of_true hy12 hW)) (.on (fun hW => c_fog_CheckReport p1) (.on (fun hW => c_gasolierref05_CheckReport p1) (.on (fun hW => c_fog_Check p0 (of_true hy14 hW)) (.on (fun hW => c_gasolierref05_Check fuel p0 (of_true hy16 hW)) (.on (fun hW => c_gasolierlaw05_sane 20000 (of_true hy18 hW)) .nil))))))) (At.keep (ts := [6]) (ids := []) rfl rfl ?_)
 refine At.thenC ?_
 refine W.ret ?_
 cases H
 exact At.ret env.ty rfl rfl (fun q hq => by cases hq) (.refl _) hval
end Go.Sp
