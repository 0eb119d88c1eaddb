/- Printed by gen.py: contracts, part 3. -/
import Derived.Test.YtnaodipmfaglfaaCtr2
set_option linter.all false
set_option maxRecDepth 100000
namespace Go.Sp
open Go Go.Av Go.Proofs

theorem co_crew_copied_o0_1_2 (p0 : Crew) {r : Crew} (H : crew_copied p0 = some r) : CtrO Try.prog 83 [.agg [roL 4 enc_Task p0.Tasks, roL 1 enc_ListRange p0.Travel, roL 3 enc_Hand p0.Hands]] [] (.agg [.buf 940 (r.Tasks).length, .buf 941 (r.Travel).length, .buf 942 (r.Hands).length]) [(940, bufL 67 4 enc_Task r.Tasks), (941, bufL 71 1 enc_ListRange r.Travel), (942, bufL 59 3 enc_Hand r.Hands)] := by
  unfold crew_copied at H
  refine CtrO.of_body (N := 29) Try.func83 (by kernel_rfl) (c := _) rfl Try.ntmps83 rfl (fun w0 h0 ρb hval hdom => ?_)
  refine W.seq ?_
  refine W.region env [] [] rfl rfl rfl .nil .nil (At.keep (ts := [1, 2]) (ids := [1, 2]) rfl rfl ?_)
  refine At.thenC ?_
  refine W.seq ?_
  obtain ⟨y1, hy2, H⟩ := of_bindO H
  obtain ⟨y3, hy4, H⟩ := of_bindO H
  refine W.region env [] [⟨.buf 900 y1.length, [(900, bufL 67 4 enc_Task y1)], 9000, []⟩, ⟨.buf 900 y3.length, [(900, bufL 59 3 enc_Hand y3)], 12000, []⟩] rfl rfl (by kernel_rfl) .nil (.free ((Ctr.ofO (co_slices_Clone_Task p0.Tasks hy2))) (.free ((Ctr.ofO (co_slices_Clone_Hand p0.Hands hy4))) .nil)) (At.keep (ts := [1, 2, 3]) (ids := [1, 2, 3, 9900, 12900]) rfl rfl ?_)
  refine At.thenC ?_
  refine W.seq ?_
  refine W.seq ?_
  refine W.region env [] [] rfl rfl rfl .nil .nil (At.keep (ts := [2, 3, 14, 15, 16]) (ids := [2, 3, 9900, 12900]) rfl rfl ?_)
  refine At.thenC ?_
  refine W.block ?_
  refine At.nilOwnCell 3 1 751 71 1 (e := fun i => enc_ListRange (([] : List (List Range)).getD i default)) rfl rfl rfl ?_
  refine At.keep (ts := [2, 3, 14, 15, 16]) (ids := [2, 3, 751, 9900, 12900]) rfl rfl ?_
  refine W.len (t := 14) rfl (fun (hn5 : p0.Travel.length ≤ maxLen) => ?_)
  refine W.rangeGo H (fun i5 (s5 : (List (List Range))) => [(2, .lp 2 0), (3, .lp 3 0), (14, roL 1 enc_ListRange p0.Travel), (15, .int .i64 (((p0.Travel.length : Nat) : Int))), (16, .int .i64 ((i5 : Int)))]) (fun i5 (s5 : (List (List Range))) => [(2, .cells [.nilS, .nilS, .nilS]), (3, .cells [.buf 9900 (y1).length, .buf 751 (s5).length, .buf 12900 (y3).length]), (751, bufL 71 1 enc_ListRange s5), (9900, bufL 67 4 enc_Task y1), (12900, bufL 59 3 enc_Hand y3)]) (.cons (.of_eq (by first | rfl | (simp; done) | omega | (simp; omega))) (.cons (.of_eq (by first | rfl | (simp; done) | omega | (simp; omega))) (.cons (.of_eq (by first | rfl | (simp; done) | omega | (simp; omega))) (.cons (.of_eq (by first | rfl | (simp; done) | omega | (refine intEq ?_; first | omega | (simp; done) | (simp; omega)) | (simp; omega))) (.cons (.of_eq (by first | rfl | (simp; done) | omega | (refine intEq ?_; first | omega | (simp; done) | (simp; omega)) | (simp; omega))) .nil))))) (.cons (.of_eq (by first | rfl | (simp; done) | omega | (simp; omega))) (.cons (BSim.cells (.cons (.of_eq (by refine bufEq ?_; first | rfl | (simp; done) | omega | (simp; omega))) (.cons (.of_eq (by refine bufEq ?_; first | rfl | (simp; done) | omega | (simp; omega))) (.cons (.of_eq (by refine bufEq ?_; first | rfl | (simp; done) | omega | (simp; omega))) .nil)))) (.cons (.of_eq (by first | rfl | (simp; done) | omega | (simp; omega))) (.cons (.of_eq (by first | rfl | (simp; done) | omega | (simp; omega))) (.cons (.of_eq (by first | rfl | (simp; done) | omega | (simp; omega))) .nil))))) (fun k5 i5 s5 hle5 H1 H2 K0 hK5 => ?_)
  refine W.seq ?_
  refine W.region env [] [] rfl rfl rfl .nil .nil (At.keep (ts := [2, 3, 14, 15, 16, 17]) (ids := [2, 3, 751, 9900, 12900]) rfl rfl ?_)
  refine At.thenC ?_
  refine W.seq ?_
  refine W.cond rfl (fun hb6 => ?_) (fun hb6 => ?_)
  · have hi5 : i5 < p0.Travel.length := by have := of_decide_eq_true hb6; omega
    have H := H1 hi5
    refine W.skip ?_
    refine At.thenC ?_
    refine W.seq ?_
    refine W.block ?_
    refine W.seq ?_
    refine W.region env [] [] rfl rfl rfl (.cons (⟨by omega, by omega⟩ : 0 ≤ (i5 : Int) ∧ (i5 : Int) < ((p0.Travel.length : Nat) : Int)) .nil) .nil (At.keep (ts := [2, 3, 5, 14, 15, 16]) (ids := [2, 3, 751, 9900, 12900]) rfl rfl ?_)
    refine At.thenC ?_
    obtain ⟨y7, hy8, H⟩ := of_bindO H
    obtain ⟨hc9, H⟩ := of_must H
    refine W.region env [] [⟨roL 2 enc_Range y7, [], 0, []⟩] rfl rfl (by kernel_rfl) (.cons (⟨by first | rfl | (simp; done) | omega | (simp; omega), by have := hc9; first | simpa using this | (unfold room at this ⊢; simp at this ⊢; omega)⟩) .nil) (.free (c_slices_Clone_Range (p0.Travel.getD i5 default) hy8) .nil) (At.keep (ts := [2, 3, 14, 15, 16]) (ids := [2, 3, 751, 9900, 12900]) rfl rfl ?_)
    refine At.convM (.cons (.refl _) (.cons (.refl _) (.cons (y := bufL 71 1 enc_ListRange (s5 ++ ([y7] : List (List Range)))) (BSim.seg (Seg.push (Seg.refl enc_ListRange _) (Seg.lit (f := enc_ListRange) (sz := 1) ([y7] : List (List Range)) rfl rfl (fun _ => rfl)))) (.cons (.refl _) (.cons (.refl _) .nil))))) ?_
    refine At.inb ?_
    refine At.thenC ?_
    refine W.region env [] [] rfl rfl rfl (.cons (by unfold inI; have := hn5; (try unfold maxLen at this); omega) .nil) .nil (At.keep (ts := [2, 3, 14, 15, 16]) (ids := [2, 3, 751, 9900, 12900]) rfl rfl ?_)
    refine At.thenK (At.keep (ts := [2, 3, 14, 15, 16]) (ids := [2, 3, 751, 9900, 12900]) rfl rfl ?_)
    exact At.conv (.cons (.of_eq (by first | rfl | (simp; done) | omega | (simp; omega))) (.cons (.of_eq (by first | rfl | (simp; done) | omega | (simp; omega))) (.cons (.of_eq (by first | rfl | (simp; done) | omega | (simp; omega))) (.cons (.of_eq (by first | rfl | (simp; done) | omega | (refine intEq ?_; first | omega | (simp; done) | (simp; omega)) | (simp; omega))) (.cons (.of_eq (by first | rfl | (simp; done) | omega | (refine intEq ?_; first | omega | (simp; done) | (simp; omega)) | (simp; omega))) .nil))))) (.cons (.of_eq (by first | rfl | (simp; done) | omega | (simp; omega))) (.cons (BSim.cells (.cons (.of_eq (by refine bufEq ?_; first | rfl | (simp; done) | omega | (simp; omega))) (.cons (.of_eq (by refine bufEq ?_; first | rfl | (simp; done) | omega | (simp; omega))) (.cons (.of_eq (by refine bufEq ?_; first | rfl | (simp; done) | omega | (simp; omega))) .nil)))) (.cons (.of_eq (by first | rfl | (simp; done) | omega | (simp; omega))) (.cons (.of_eq (by first | rfl | (simp; done) | omega | (simp; omega))) (.cons (.of_eq (by first | rfl | (simp; done) | omega | (simp; omega))) .nil))))) (hK5 hi5 (s5 ++ ([y7] : List (List Range))) H)
  · have H := H2 (by have := of_decide_eq_false hb6; omega)
    refine W.exit ?_
    refine At.xthen ?_
    refine At.xthen ?_
    refine At.xhere ?_
    refine At.thenC ?_
    refine W.seq ?_
    refine W.region env [] [] rfl rfl rfl .nil .nil (At.keep (ts := [2]) (ids := [2, 751, 9900, 12900]) rfl rfl ?_)
    refine At.thenC ?_
    refine W.ret ?_
    cases H
    refine At.ren [(9900, 940), (751, 941), (12900, 942)] (K := [2, 751, 9900, 12900]) (ts := [2]) rfl rfl rfl rfl rfl ?_
    exact At.retK env.ty [940, 941, 942] 0 rfl rfl rfl rfl (.cons (.refl _) (.cons (.refl _) (.cons (.refl _) .nil))) (Sim.aggL (.cons (.of_eq (by refine bufEq ?_; first | rfl | (simp; done) | omega | (simp; omega))) (.cons (.of_eq (by refine bufEq ?_; first | rfl | (simp; done) | omega | (simp; omega))) (.cons (.of_eq (by refine bufEq ?_; first | rfl | (simp; done) | omega | (simp; omega))) .nil)))) hval hdom rfl

theorem c_crew_Moved (fuel : Nat) (p0 : Crew) {r : ((List Int) × Int)} (H : crew_Moved fuel p0 = some r) : Ctr Try.prog 38 [.agg [roL 4 enc_Task p0.Tasks, roL 1 enc_ListRange p0.Travel, roL 3 enc_Hand p0.Hands]] (.tup [roL 1 enc_Int r.1, .int .i64 (r.2)]) := by
  unfold crew_Moved at H
  refine Ctr.of_body (N := 52) Try.func38 (by kernel_rfl) (c := _) rfl Try.ntmps38 rfl (fun w0 h0 hval => ?_)
  refine W.seq ?_
  refine W.region env [] [] rfl rfl rfl .nil .nil (At.keep (ts := [1]) (ids := [1]) rfl rfl ?_)
  refine At.thenC ?_
  refine W.seq ?_
  obtain ⟨y1, hy2, H⟩ := of_bindO H
  refine W.region env [] [⟨.tup [.int .i64 (y1.1), .int .i64 (y1.2)], [], 0, []⟩] rfl rfl rfl .nil (.free (c_crew_Count fuel p0 hy2) .nil) (At.keep (ts := [1, 4, 5]) (ids := [1]) rfl rfl ?_)
  refine At.thenC ?_
  refine W.seq ?_
  refine W.seq ?_
  refine W.region env [] [] rfl rfl rfl .nil .nil (At.keep (ts := [1, 4, 5, 18]) (ids := [1]) rfl rfl ?_)
  refine At.thenC ?_
  refine W.cond rfl (fun hb3 => ?_) (fun hb3 => ?_)
  · have H := of_true H hb3
    refine W.seq ?_
    refine W.region env [] [] rfl rfl rfl .nil .nil (At.keep (ts := [2, 3]) (ids := []) rfl rfl ?_)
    refine At.thenC ?_
    refine W.ret ?_
    refine At.rthen ?_
    cases H
    exact At.ret env.ty rfl rfl (fun q hq => by cases hq) (Sim.tupL (.cons (Sim.nil _ _) (.cons (.refl _) .nil))) hval
  · have H := of_false H hb3
    refine W.skip ?_
    refine At.thenC ?_
    refine W.seq ?_
    refine W.region env [] [] rfl rfl rfl .nil .nil (At.keep (ts := [1, 4, 6]) (ids := [1]) rfl rfl ?_)
    refine At.thenC ?_
    refine W.seq ?_
    refine W.seq ?_
    refine W.region env [] [] rfl rfl rfl .nil .nil (At.keep (ts := [1, 4, 6, 21, 22, 23]) (ids := [1]) rfl rfl ?_)
    refine At.thenC ?_
    refine W.block ?_
    refine At.nilOwn 6 506 3 1 (e := fun i => enc_Int (([] : List Int).getD i default)) rfl rfl ?_
    refine At.keep (ts := [1, 4, 6, 21, 22, 23]) (ids := [1, 506]) rfl rfl ?_
    refine W.len (t := 21) rfl (fun (hn4 : p0.Tasks.length ≤ maxLen) => ?_)
    refine W.rangeGo H (fun i4 (s4 : (List Int)) => [(1, .lp 1 0), (4, .int .i64 (y1.1)), (6, .buf 506 (s4).length), (21, roL 4 enc_Task p0.Tasks), (22, .int .i64 (((p0.Tasks.length : Nat) : Int))), (23, .int .i64 ((i4 : Int)))]) (fun i4 (s4 : (List Int)) => [(1, .cells [roL 4 enc_Task p0.Tasks, roL 1 enc_ListRange p0.Travel, roL 3 enc_Hand p0.Hands]), (506, bufL 3 1 enc_Int s4)]) (.cons (.of_eq (by first | rfl | (simp; done) | omega | (simp; omega))) (.cons (.of_eq (by first | rfl | (simp; done) | omega | (refine intEq ?_; first | omega | (simp; done) | (simp; omega)) | (simp; omega))) (.cons (.of_eq (by refine bufEq ?_; first | (simp [copyAt]; done) | omega | (simp [copyAt]; omega) | (simp only [List.length_set] at *; omega) | rfl)) (.cons (.of_eq (by first | rfl | (simp; done) | omega | (simp; omega))) (.cons (.of_eq (by first | rfl | (simp; done) | omega | (refine intEq ?_; first | omega | (simp; done) | (simp; omega)) | (simp; omega))) (.cons (.of_eq (by first | rfl | (simp; done) | omega | (refine intEq ?_; first | omega | (simp; done) | (simp; omega)) | (simp; omega))) .nil)))))) (.cons (.of_eq (by first | rfl | (simp; done) | omega | (simp; omega))) (.cons (.of_eq (by first | rfl | (simp; done) | omega | (simp; omega))) .nil)) (fun k4 i4 s4 hle4 H1 H2 K0 hK4 => ?_)
    refine W.seq ?_
    refine W.region env [] [] rfl rfl rfl .nil .nil (At.keep (ts := [1, 4, 6, 21, 22, 23, 24]) (ids := [1, 506]) rfl rfl ?_)
    refine At.thenC ?_
    refine W.seq ?_
    refine W.cond rfl (fun hb5 => ?_) (fun hb5 => ?_)
    · have hi4 : i4 < p0.Tasks.length := by have := of_decide_eq_true hb5; omega
      have H := H1 hi4
      refine W.skip ?_
      refine At.thenC ?_
      refine W.seq ?_
      refine W.block ?_
      refine W.seq ?_
      refine W.region env [] [] rfl rfl rfl (.cons (⟨by omega, by omega⟩ : 0 ≤ (i4 : Int) ∧ (i4 : Int) < ((p0.Tasks.length : Nat) : Int)) .nil) .nil (At.keep (ts := [1, 4, 6, 7, 8, 21, 22, 23]) (ids := [1, 8, 506]) rfl rfl ?_)
      refine At.thenC ?_
      refine W.seq ?_
      obtain ⟨y6, hy7, H⟩ := of_bindO H
      refine W.region env [] [⟨.agg [.buf 940 (y6.Tasks).length, .buf 941 (y6.Travel).length, .buf 942 (y6.Hands).length], [(940, bufL 67 4 enc_Task y6.Tasks), (941, bufL 71 1 enc_ListRange y6.Travel), (942, bufL 59 3 enc_Hand y6.Hands)], 30000, []⟩] rfl rfl (by kernel_rfl) .nil (.free ((Ctr.ofO (co_crew_copied_o0_1_2 p0 hy7))) .nil) (At.keep (ts := [1, 4, 6, 7, 8, 9, 21, 22, 23]) (ids := [1, 8, 9, 506, 30940, 30941, 30942]) rfl rfl ?_)
      refine At.thenC ?_
      refine W.seq ?_
      obtain ⟨y8, hy9, H⟩ := of_bindO H
      refine W.region env [] [⟨.buf 900 y8.length, [(30940, .dead), (900, bufL 67 4 enc_Task y8)], 36000, []⟩] rfl rfl (by kernel_rfl) (.cons (by unfold inI; have := hn4; (try unfold maxLen at this); omega) .nil) (.free (CtrO.sim (CtrO.at (co_slices_Delete_Task y6.Tasks (i4 : Int) ((i4 : Int) + 1) hy9) rfl 30940) (.cons (.of_eq (by refine bufEq ?_; first | rfl | (simp; done) | omega | (simp; omega))) (.cons (.refl _) (.cons (.refl _) .nil))) (.cons (.refl _) .nil)) .nil) (At.keep (ts := [1, 4, 6, 8, 9, 21, 22, 23]) (ids := [1, 8, 9, 506, 30941, 30942, 36900]) rfl rfl ?_)
      refine At.thenC ?_
      refine W.seq ?_
      obtain ⟨y10, hy11, H⟩ := of_bindO H
      refine W.region env [] [⟨.tup [.int .i64 (y10.1), .int .i64 (y10.2)], [], 0, []⟩] rfl rfl rfl (.cons ⟨by first | rfl | (simp; done) | omega | (simp; omega), ⟨by first | rfl | (simp; done) | omega | (simp; omega), (by first | rfl | (simp; done) | omega | (simp; omega))⟩⟩ .nil) (.free (c_crew_Count fuel (⟨y8, y6.Travel, y6.Hands⟩ : Crew) hy11) .nil) (At.keep (ts := [1, 4, 6, 8, 10, 21, 22, 23]) (ids := [1, 8, 506]) rfl rfl ?_)
      refine At.thenC ?_
      refine W.seq ?_
      refine W.region env [] [] rfl rfl rfl .nil .nil (At.keep (ts := [1, 4, 6, 8, 21, 22, 23, 44]) (ids := [1, 8, 506]) rfl rfl ?_)
      refine At.thenC ?_
      refine W.cond rfl (fun hb12 => ?_) (fun hb12 => ?_)
      · have H := of_true H hb12
        obtain ⟨hc13, H⟩ := of_must H
        refine W.region env [] [] rfl rfl rfl (.cons (⟨by first | rfl | (simp; done) | omega | (simp; omega), by have := hc13; first | simpa using this | (unfold room at this ⊢; simp at this ⊢; omega)⟩) .nil) .nil (At.keep (ts := [1, 4, 6, 21, 22, 23]) (ids := [1, 506]) rfl rfl ?_)
        refine At.convM (.cons (.refl _) (.cons (y := bufL 3 1 enc_Int (s4 ++ ([(p0.Tasks.getD i4 default).Lamp] : List Int))) (BSim.seg (Seg.push (Seg.refl enc_Int _) (Seg.lit (f := enc_Int) (sz := 1) ([(p0.Tasks.getD i4 default).Lamp] : List Int) rfl rfl (fun _ => rfl)))) .nil)) ?_
        refine At.inb ?_
        refine At.thenC ?_
        refine W.region env [] [] rfl rfl rfl (.cons (by unfold inI; have := hn4; (try unfold maxLen at this); omega) .nil) .nil (At.keep (ts := [1, 4, 6, 21, 22, 23]) (ids := [1, 506]) rfl rfl ?_)
        refine At.thenK (At.keep (ts := [1, 4, 6, 21, 22, 23]) (ids := [1, 506]) rfl rfl ?_)
        exact At.conv (.cons (.of_eq (by first | rfl | (simp; done) | omega | (simp; omega))) (.cons (.of_eq (by first | rfl | (simp; done) | omega | (refine intEq ?_; first | omega | (simp; done) | (simp; omega)) | (simp; omega))) (.cons (.of_eq (by refine bufEq ?_; first | (simp [copyAt]; done) | omega | (simp [copyAt]; omega) | (simp only [List.length_set] at *; omega) | rfl)) (.cons (.of_eq (by first | rfl | (simp; done) | omega | (simp; omega))) (.cons (.of_eq (by first | rfl | (simp; done) | omega | (refine intEq ?_; first | omega | (simp; done) | (simp; omega)) | (simp; omega))) (.cons (.of_eq (by first | rfl | (simp; done) | omega | (refine intEq ?_; first | omega | (simp; done) | (simp; omega)) | (simp; omega))) .nil)))))) (.cons (.of_eq (by first | rfl | (simp; done) | omega | (simp; omega))) (.cons (.of_eq (by first | rfl | (simp; done) | omega | (simp; omega))) .nil)) (hK4 hi4 (s4 ++ ([(p0.Tasks.getD i4 default).Lamp] : List Int)) H)
      · have H := of_false H hb12
        refine W.skip ?_
        refine At.inb ?_
        refine At.thenC ?_
        refine W.region env [] [] rfl rfl rfl (.cons (by unfold inI; have := hn4; (try unfold maxLen at this); omega) .nil) .nil (At.keep (ts := [1, 4, 6, 21, 22, 23]) (ids := [1, 506]) rfl rfl ?_)
        refine At.thenK (At.keep (ts := [1, 4, 6, 21, 22, 23]) (ids := [1, 506]) rfl rfl ?_)
        exact At.conv (.cons (.of_eq (by first | rfl | (simp; done) | omega | (simp; omega))) (.cons (.of_eq (by first | rfl | (simp; done) | omega | (refine intEq ?_; first | omega | (simp; done) | (simp; omega)) | (simp; omega))) (.cons (.of_eq (by refine bufEq ?_; first | (simp [copyAt]; done) | omega | (simp [copyAt]; omega) | (simp only [List.length_set] at *; omega) | rfl)) (.cons (.of_eq (by first | rfl | (simp; done) | omega | (simp; omega))) (.cons (.of_eq (by first | rfl | (simp; done) | omega | (refine intEq ?_; first | omega | (simp; done) | (simp; omega)) | (simp; omega))) (.cons (.of_eq (by first | rfl | (simp; done) | omega | (refine intEq ?_; first | omega | (simp; done) | (simp; omega)) | (simp; omega))) .nil)))))) (.cons (.of_eq (by first | rfl | (simp; done) | omega | (simp; omega))) (.cons (.of_eq (by first | rfl | (simp; done) | omega | (simp; omega))) .nil)) (hK4 hi4 s4 H)
    · have H := H2 (by have := of_decide_eq_false hb5; omega)
      refine W.exit ?_
      refine At.xthen ?_
      refine At.xthen ?_
      refine At.xhere ?_
      refine At.thenC ?_
      refine W.seq ?_
      refine W.region env [] [] rfl rfl rfl .nil .nil (At.keep (ts := [2, 3]) (ids := [506]) rfl rfl ?_)
      refine At.thenC ?_
      refine W.ret ?_
      cases H
      exact At.ret env.ty rfl rfl (fun q hq => by cases hq; exact (by first | rfl | (simp; done) | omega | (simp; omega))) (.refl _) hval

theorem c_crew_CheckRounds (p0 : Crew) (p1 : (List (List Int))) {r : Int} (H : crew_CheckRounds p0 p1 = some r) : Ctr Try.prog 26 [.agg [roL 4 enc_Task p0.Tasks, roL 1 enc_ListRange p0.Travel, roL 3 enc_Hand p0.Hands], roL 1 enc_ListInt p1] (.int .i64 (r)) := by
  unfold crew_CheckRounds at H
  refine Ctr.of_body (N := 14) Try.func26 (by kernel_rfl) (c := _) rfl Try.ntmps26 rfl (fun w0 h0 hval => ?_)
  refine W.seq ?_
  refine W.region env [] [] rfl rfl rfl .nil .nil (At.keep (ts := [1, 2]) (ids := [2]) rfl rfl ?_)
  refine At.thenC ?_
  refine W.seq ?_
  obtain ⟨y1, hy2, H⟩ := of_bindO H
  refine W.region env [] [⟨.tup [.po y1.1.isSome [roL 4 enc_Task ((y1.1.getD default).Crew.Tasks), roL 1 enc_ListRange ((y1.1.getD default).Crew.Travel), roL 3 enc_Hand ((y1.1.getD default).Crew.Hands), roL 1 enc_Int ((y1.1.getD default).next)], .int .i64 (y1.2)], [], 0, []⟩] rfl rfl rfl .nil (.free (c_crew_asked p0 p1 hy2) .nil) (At.keep (ts := [6]) (ids := []) rfl rfl ?_)
  refine At.thenC ?_
  refine W.seq ?_
  refine W.region env [] [] rfl rfl rfl .nil .nil (At.keep (ts := [4]) (ids := []) rfl rfl ?_)
  refine At.thenC ?_
  refine W.ret ?_
  cases H
  exact At.ret env.ty rfl rfl (fun q hq => by cases hq) (.refl _) hval

theorem c_crew_CheckCut (p0 : Crew) (p1 : (List Int)) (p2 : Int) {r : Int} (H : crew_CheckCut p0 p1 p2 = some r) : Ctr Try.prog 27 [.agg [roL 4 enc_Task p0.Tasks, roL 1 enc_ListRange p0.Travel, roL 3 enc_Hand p0.Hands], roL 1 enc_Int p1, .int .i64 (p2)] (.int .i64 (r)) := by
  unfold crew_CheckCut at H
  refine Ctr.of_body (N := 87) Try.func27 (by kernel_rfl) (c := _) rfl Try.ntmps27 rfl (fun w0 h0 hval => ?_)
  refine W.seq ?_
  refine W.region env [] [] rfl rfl rfl .nil .nil (At.keep (ts := [1, 2, 3]) (ids := [3]) rfl rfl ?_)
  refine At.thenC ?_
  refine W.seq ?_
  refine W.seq ?_
  obtain ⟨y1, hy2, H⟩ := of_bindO H
  refine W.region env [] [⟨.int .i64 (y1), [], 0, []⟩] rfl rfl rfl .nil (.free (c_crew_Check p0 hy2) .nil) (At.keep (ts := [1, 2, 3, 7]) (ids := [3]) rfl rfl ?_)
  refine At.thenC ?_
  refine W.seq ?_
  refine W.region env [] [] rfl rfl rfl .nil .nil (At.keep (ts := [1, 2, 3, 7, 16]) (ids := [3]) rfl rfl ?_)
  refine At.thenC ?_
  refine W.cond rfl (fun hb3 => ?_) (fun hb3 => ?_)
  · have H := of_true H hb3
    refine W.seq ?_
    refine W.region env [] [] rfl rfl rfl .nil .nil (At.keep (ts := [6]) (ids := []) rfl rfl ?_)
    refine At.thenC ?_
    refine W.ret ?_
    refine At.rthen ?_
    cases H
    exact At.ret env.ty rfl rfl (fun q hq => by cases hq) (.refl _) hval
  · have H := of_false H hb3
    refine W.skip ?_
    refine At.thenC ?_
    refine W.seq ?_
    obtain ⟨y4, hy5, H⟩ := of_bindO H
    refine W.region env [] [⟨.po y4.isSome [roL 4 enc_Task ((y4.getD default).Crew.Tasks), roL 1 enc_ListRange ((y4.getD default).Crew.Travel), roL 3 enc_Hand ((y4.getD default).Crew.Hands), roL 1 enc_Int ((y4.getD default).next)], [], 0, []⟩] rfl rfl rfl .nil (.free (c_crew_newPlan p0 (fun x0 => some (crew_most x0)) 46 [] [] (fun x0 r h => by cases h; exact c_crew_most x0) hy5) .nil) (At.keep (ts := [1, 2, 8]) (ids := []) rfl rfl ?_)
    refine At.thenC ?_
    refine W.seq ?_
    refine W.seq ?_
    refine W.region env [] [] rfl rfl rfl .nil .nil (At.keep (ts := [1, 2, 8, 20, 21, 22]) (ids := []) rfl rfl ?_)
    refine At.thenC ?_
    refine W.block ?_
    refine At.keep (ts := [1, 2, 8, 20, 21, 22]) (ids := []) rfl rfl ?_
    refine W.len (t := 20) rfl (fun (hn6 : p1.length ≤ maxLen) => ?_)
    refine W.rangeGo H (fun i6 (s6 : Unit) => [(1, roL 1 enc_Int p1), (2, .int .i64 (p2)), (8, .po y4.isSome [roL 4 enc_Task ((y4.getD default).Crew.Tasks), roL 1 enc_ListRange ((y4.getD default).Crew.Travel), roL 3 enc_Hand ((y4.getD default).Crew.Hands), roL 1 enc_Int ((y4.getD default).next)]), (20, roL 1 enc_Int p1), (21, .int .i64 (((p1.length : Nat) : Int))), (22, .int .i64 ((i6 : Int)))]) (fun i6 (s6 : Unit) => []) (.cons (.of_eq (by first | rfl | (simp; done) | omega | (simp; omega))) (.cons (.of_eq (by first | rfl | (simp; done) | omega | (refine intEq ?_; first | omega | (simp; done) | (simp; omega)) | (simp; omega))) (.cons (.of_eq (by first | rfl | (simp; done) | omega | (simp; omega))) (.cons (.of_eq (by first | rfl | (simp; done) | omega | (simp; omega))) (.cons (.of_eq (by first | rfl | (simp; done) | omega | (refine intEq ?_; first | omega | (simp; done) | (simp; omega)) | (simp; omega))) (.cons (.of_eq (by first | rfl | (simp; done) | omega | (refine intEq ?_; first | omega | (simp; done) | (simp; omega)) | (simp; omega))) .nil)))))) .nil (fun k6 i6 s6 hle6 H1 H2 K0 hK6 => ?_)
    refine W.seq ?_
    refine W.region env [] [] rfl rfl rfl .nil .nil (At.keep (ts := [1, 2, 8, 20, 21, 22, 23]) (ids := []) rfl rfl ?_)
    refine At.thenC ?_
    refine W.seq ?_
    refine W.cond rfl (fun hb7 => ?_) (fun hb7 => ?_)
    · have hi6 : i6 < p1.length := by have := of_decide_eq_true hb7; omega
      have H := H1 hi6
      refine W.skip ?_
      refine At.thenC ?_
      refine W.seq ?_
      refine W.block ?_
      refine W.seq ?_
      refine W.region env [] [] rfl rfl rfl (.cons (⟨by omega, by omega⟩ : 0 ≤ (i6 : Int) ∧ (i6 : Int) < ((p1.length : Nat) : Int)) .nil) .nil (At.keep (ts := [1, 2, 8, 9, 10, 20, 21, 22]) (ids := []) rfl rfl ?_)
      refine At.thenC ?_
      refine W.seq ?_
      refine W.seq ?_
      obtain ⟨hc8, H⟩ := of_must H
      obtain ⟨hc9, H⟩ := of_must H
      obtain ⟨hc10, H⟩ := of_must H
      obtain ⟨hc11, H⟩ := of_must H
      refine W.region env [] [⟨.bool ((crew_in (p1.getD i6 default) 0 (((((y4.getD default).next).length : Nat) : Int) - 1))), [], 0, []⟩] rfl rfl rfl (.cons hc8 (.cons hc9 (.cons (fun h => h) (.cons (fun h => h) (.cons hc10 (.cons (fun h => h) (.cons hc11 (.cons (fun h => h) (.cons (fun h => h) (.cons (fun h => h) (.cons (fun h => h) (.cons (fun h => h) (.cons (fun h => h) (.cons (fun hW h => by revert hW h; first | (simp +contextual; done) | grind) (.cons (fun h => by rw [h]; rfl) .nil))))))))))))))) (.free (c_crew_in (p1.getD i6 default) 0 (((((y4.getD default).next).length : Nat) : Int) - 1)) .nil) (At.keep (ts := [1, 2, 8, 9, 10, 20, 21, 22, 48]) (ids := []) rfl rfl ?_)
      refine At.thenC ?_
      refine W.cond rfl (fun hb12 => ?_) (fun hb12 => ?_)
      · have H := of_true H hb12
        refine W.seq ?_
        refine W.region env [] [] rfl rfl rfl .nil .nil (At.keep (ts := [6]) (ids := []) rfl rfl ?_)
        refine At.thenC ?_
        refine W.ret ?_
        refine At.rthen ?_
        refine At.rinb ?_
        refine At.rthen ?_
        refine At.rthen ?_
        refine At.rinb ?_
        refine At.rthen ?_
        cases H
        exact At.ret env.ty rfl rfl (fun q hq => by cases hq) (.refl _) hval
      · have H := of_false H hb12
        refine W.skip ?_
        refine At.thenC ?_
        refine W.seq ?_
        obtain ⟨hc13, H⟩ := of_must H
        refine W.region env [] [] rfl rfl rfl (.cons hc13 .nil) .nil (At.keep (ts := [1, 2, 8, 10, 20, 21, 22, 51, 52, 53]) (ids := []) rfl rfl ?_)
        refine At.slot (t := 51) (v := roL 1 enc_Int (p1.take i6)) (Sim.seg (Seg.take enc_Int p1 i6 (by omega))) ?_
        refine At.thenC ?_
        refine W.block ?_
        refine At.keep (ts := [1, 2, 8, 10, 20, 21, 22, 51, 52, 53]) (ids := []) rfl rfl ?_
        refine W.len (t := 51) rfl (fun (hn14 : (p1.take i6).length ≤ maxLen) => ?_)
        refine W.rangeGo H (fun i14 (s14 : Unit) => [(1, roL 1 enc_Int p1), (2, .int .i64 (p2)), (8, .po y4.isSome [roL 4 enc_Task ((y4.getD default).Crew.Tasks), roL 1 enc_ListRange ((y4.getD default).Crew.Travel), roL 3 enc_Hand ((y4.getD default).Crew.Hands), roL 1 enc_Int ((y4.getD default).next)]), (10, .int .i64 ((p1.getD i6 default))), (20, roL 1 enc_Int p1), (21, .int .i64 (((p1.length : Nat) : Int))), (22, .int .i64 ((i6 : Int))), (51, roL 1 enc_Int (p1.take i6)), (52, .int .i64 ((((p1.take i6).length : Nat) : Int))), (53, .int .i64 ((i14 : Int)))]) (fun i14 (s14 : Unit) => []) (.cons (.of_eq (by first | rfl | (simp; done) | omega | (simp; omega))) (.cons (.of_eq (by first | rfl | (simp; done) | omega | (refine intEq ?_; first | omega | (simp; done) | (simp; omega)) | (simp; omega))) (.cons (.of_eq (by first | rfl | (simp; done) | omega | (simp; omega))) (.cons (.of_eq (by first | rfl | (simp; done) | omega | (refine intEq ?_; first | omega | (simp; done) | (simp; omega)) | (simp; omega))) (.cons (.of_eq (by first | rfl | (simp; done) | omega | (simp; omega))) (.cons (.of_eq (by first | rfl | (simp; done) | omega | (refine intEq ?_; first | omega | (simp; done) | (simp; omega)) | (simp; omega))) (.cons (.of_eq (by first | rfl | (simp; done) | omega | (refine intEq ?_; first | omega | (simp; done) | (simp; omega)) | (simp; omega))) (.cons (.of_eq (by first | rfl | (simp; done) | omega | (simp; omega))) (.cons (.of_eq (by first | rfl | (simp; done) | omega | (refine intEq ?_; first | omega | (simp; done) | (simp; omega)) | (simp; omega))) (.cons (.of_eq (by first | rfl | (simp; done) | omega | (refine intEq ?_; first | omega | (simp; done) | (simp; omega)) | (simp; omega))) .nil)))))))))) .nil (fun k14 i14 s14 hle14 H1 H2 K0 hK14 => ?_)
        refine W.seq ?_
        refine W.region env [] [] rfl rfl rfl .nil .nil (At.keep (ts := [1, 2, 8, 10, 20, 21, 22, 51, 52, 53, 54]) (ids := []) rfl rfl ?_)
        refine At.thenC ?_
        refine W.seq ?_
        refine W.cond rfl (fun hb15 => ?_) (fun hb15 => ?_)
        · have hi14 : i14 < (p1.take i6).length := by have := of_decide_eq_true hb15; omega
          have H := H1 hi14
          refine W.skip ?_
          refine At.thenC ?_
          refine W.seq ?_
          refine W.block ?_
          refine W.seq ?_
          refine W.region env [] [] rfl rfl rfl (.cons (⟨by omega, by omega⟩ : 0 ≤ (i14 : Int) ∧ (i14 : Int) < (((p1.take i6).length : Nat) : Int)) .nil) .nil (At.keep (ts := [1, 2, 8, 10, 12, 20, 21, 22, 51, 52, 53]) (ids := []) rfl rfl ?_)
          refine At.thenC ?_
          refine W.seq ?_
          obtain ⟨hc16, H⟩ := of_must H
          obtain ⟨hc17, H⟩ := of_must H
          obtain ⟨hc18, H⟩ := of_must H
          obtain ⟨hc19, H⟩ := of_must H
          obtain ⟨hc20, H⟩ := of_must H
          obtain ⟨hc21, H⟩ := of_must H
          obtain ⟨hc22, H⟩ := of_must H
          obtain ⟨hc23, H⟩ := of_must H
          refine W.region env [] [] rfl rfl rfl (.cons hc16 (.cons hc17 (.cons hc18 (.cons hc19 (.cons hc20 (.cons (fun h => h) (.cons (fun h => h) (.cons (fun h => h) (.cons hc21 (.cons (fun h => h) (.cons (fun h => h) (.cons (fun h => h) (.cons hc22 (.cons (fun h => h) (.cons (fun h => h) (.cons hc23 (.cons (fun h => h) (.cons (fun h => h) (.cons (fun h => by rw [h]; rfl) .nil))))))))))))))))))) .nil (At.keep (ts := [1, 2, 8, 10, 20, 21, 22, 51, 52, 53, 80]) (ids := []) rfl rfl ?_)
          refine At.thenC ?_
          refine W.cond rfl (fun hb24 => ?_) (fun hb24 => ?_)
          · have H := of_true H hb24
            refine W.seq ?_
            refine W.region env [] [] rfl rfl rfl .nil .nil (At.keep (ts := [6]) (ids := []) rfl rfl ?_)
            refine At.thenC ?_
            refine W.ret ?_
            refine At.rinb ?_
            refine At.rthen ?_
            refine At.rthen ?_
            refine At.rinb ?_
            refine At.rinb ?_
            refine At.rthen ?_
            refine At.rthen ?_
            refine At.rinb ?_
            refine At.rthen ?_
            cases H
            exact At.ret env.ty rfl rfl (fun q hq => by cases hq) (.refl _) hval
          · have H := of_false H hb24
            refine W.skip ?_
            refine At.inb ?_
            refine At.thenC ?_
            refine W.region env [] [] rfl rfl rfl (.cons (by unfold inI; have := hn14; (try unfold maxLen at this); omega) .nil) .nil (At.keep (ts := [1, 2, 8, 10, 20, 21, 22, 51, 52, 53]) (ids := []) rfl rfl ?_)
            refine At.thenK (At.keep (ts := [1, 2, 8, 10, 20, 21, 22, 51, 52, 53]) (ids := []) rfl rfl ?_)
            exact At.conv (.cons (.of_eq (by first | rfl | (simp; done) | omega | (simp; omega))) (.cons (.of_eq (by first | rfl | (simp; done) | omega | (refine intEq ?_; first | omega | (simp; done) | (simp; omega)) | (simp; omega))) (.cons (.of_eq (by first | rfl | (simp; done) | omega | (simp; omega))) (.cons (.of_eq (by first | rfl | (simp; done) | omega | (refine intEq ?_; first | omega | (simp; done) | (simp; omega)) | (simp; omega))) (.cons (.of_eq (by first | rfl | (simp; done) | omega | (simp; omega))) (.cons (.of_eq (by first | rfl | (simp; done) | omega | (refine intEq ?_; first | omega | (simp; done) | (simp; omega)) | (simp; omega))) (.cons (.of_eq (by first | rfl | (simp; done) | omega | (refine intEq ?_; first | omega | (simp; done) | (simp; omega)) | (simp; omega))) (.cons (.of_eq (by first | rfl | (simp; done) | omega | (simp; omega))) (.cons (.of_eq (by first | rfl | (simp; done) | omega | (refine intEq ?_; first | omega | (simp; done) | (simp; omega)) | (simp; omega))) (.cons (.of_eq (by first | rfl | (simp; done) | omega | (refine intEq ?_; first | omega | (simp; done) | (simp; omega)) | (simp; omega))) .nil)))))))))) .nil (hK14 hi14 () H)
        · have H := H2 (by have := of_decide_eq_false hb15; omega)
          refine W.exit ?_
          refine At.xthen ?_
          refine At.xthen ?_
          refine At.xhere ?_
          refine At.inb ?_
          refine At.thenC ?_
          refine W.region env [] [] rfl rfl rfl (.cons (by unfold inI; have := hn6; (try unfold maxLen at this); omega) .nil) .nil (At.keep (ts := [1, 2, 8, 20, 21, 22]) (ids := []) rfl rfl ?_)
          refine At.thenK (At.keep (ts := [1, 2, 8, 20, 21, 22]) (ids := []) rfl rfl ?_)
          exact At.conv (.cons (.of_eq (by first | rfl | (simp; done) | omega | (simp; omega))) (.cons (.of_eq (by first | rfl | (simp; done) | omega | (refine intEq ?_; first | omega | (simp; done) | (simp; omega)) | (simp; omega))) (.cons (.of_eq (by first | rfl | (simp; done) | omega | (simp; omega))) (.cons (.of_eq (by first | rfl | (simp; done) | omega | (simp; omega))) (.cons (.of_eq (by first | rfl | (simp; done) | omega | (refine intEq ?_; first | omega | (simp; done) | (simp; omega)) | (simp; omega))) (.cons (.of_eq (by first | rfl | (simp; done) | omega | (refine intEq ?_; first | omega | (simp; done) | (simp; omega)) | (simp; omega))) .nil)))))) .nil (hK6 hi6 () H)
    · have H := H2 (by have := of_decide_eq_false hb7; omega)
      refine W.exit ?_
      refine At.xthen ?_
      refine At.xthen ?_
      refine At.xhere ?_
      refine At.thenC ?_
      refine W.seq ?_
      refine W.seq ?_
      refine W.region env [] [] rfl rfl rfl .nil .nil (At.keep (ts := [86]) (ids := []) rfl rfl ?_)
      refine At.thenC ?_
      refine W.cond rfl (fun hb25 => ?_) (fun hb25 => ?_)
      · have H := of_true H hb25
        refine W.seq ?_
        refine W.region env [] [] rfl rfl rfl .nil .nil (At.keep (ts := [6]) (ids := []) rfl rfl ?_)
        refine At.thenC ?_
        refine W.ret ?_
        refine At.rthen ?_
        cases H
        exact At.ret env.ty rfl rfl (fun q hq => by cases hq) (.refl _) hval
      · have H := of_false H hb25
        refine W.skip ?_
        refine At.thenC ?_
        refine W.seq ?_
        refine W.region env [] [] rfl rfl rfl .nil .nil (At.keep (ts := [6]) (ids := []) rfl rfl ?_)
        refine At.thenC ?_
        refine W.ret ?_
        cases H
        exact At.ret env.ty rfl rfl (fun q hq => by cases hq) (.refl _) hval

theorem c_gasolierlaw04_sane (fuel : Nat) {r : Bool} (H : gasolierlaw04_sane fuel = some r) : Ctr Try.prog 14 [] (.bool (r)) := by
  unfold gasolierlaw04_sane at H
  refine Ctr.of_body (N := 164) Try.func14 (by kernel_rfl) (c := _) rfl Try.ntmps14 rfl (fun w0 h0 hval => ?_)
  refine W.seq ?_
  refine W.region env [] [] rfl rfl rfl .nil .nil (At.keep (ts := []) (ids := []) rfl rfl ?_)
  refine At.thenC ?_
  refine W.seq ?_
  refine W.region env [] [⟨.agg [roL 4 enc_Task ((gasolierlaw04_team).Tasks), roL 1 enc_ListRange ((gasolierlaw04_team).Travel), roL 3 enc_Hand ((gasolierlaw04_team).Hands)], [], 0, []⟩] rfl rfl rfl .nil (.free (c_gasolierlaw04_team) .nil) (At.keep (ts := [1]) (ids := [1]) rfl rfl ?_)
  refine At.thenC ?_
  refine W.seq ?_
  refine W.region env [] [] rfl rfl rfl .nil .nil (At.keep (ts := [1, 2]) (ids := [1]) rfl rfl ?_)
  refine At.slot (t := 2) (v := roL 1 enc_ListInt ([([0, 2, 3] : List Int), ([1] : List Int)] : List (List Int))) (Sim.lit2 (f := enc_ListInt) ([([0, 2, 3] : List Int), ([1] : List Int)] : List (List Int)) (.cons (Sim.lit (f := enc_Int) ([0, 2, 3] : List Int) rfl rfl (fun _ => rfl)) (.cons (Sim.lit (f := enc_Int) ([1] : List Int) rfl rfl (fun _ => rfl)) .nil)) rfl rfl (fun _ => rfl)) ?_
  refine At.thenC ?_
  refine W.seq ?_
  obtain ⟨y1, hy2, H⟩ := of_bindO H
  refine W.region env [] [⟨.tup [.int .i64 (y1.1), .int .i64 (y1.2)], [], 0, []⟩] rfl rfl rfl .nil (.free (c_crew_Follows (gasolierlaw04_team) 0 1 hy2) .nil) (At.keep (ts := [1, 2, 3, 4]) (ids := [1]) rfl rfl ?_)
  refine At.thenC ?_
  refine W.seq ?_
  obtain ⟨y3, hy4, H⟩ := of_bindO H
  refine W.region env [] [⟨.tup [.int .i64 (y3.1), .int .i64 (y3.2)], [], 0, []⟩] rfl rfl rfl .nil (.free (c_crew_Count fuel (gasolierlaw04_team) hy4) .nil) (At.keep (ts := [1, 2, 3, 4, 5, 6]) (ids := [1]) rfl rfl ?_)
  refine At.thenC ?_
  refine W.seq ?_
  obtain ⟨y5, hy6, H⟩ := of_bindO H
  refine W.region env [] [⟨.tup [.agg [.int .i64 (y5.1.Lo), .int .i64 (y5.1.Hi)], .int .i64 (y5.2)], [], 0, []⟩] rfl rfl rfl .nil (.free (c_crew_Bounds fuel (gasolierlaw04_team) hy6) .nil) (At.keep (ts := [1, 2, 3, 4, 5, 6, 7, 8]) (ids := [1, 7]) rfl rfl ?_)
  refine At.thenC ?_
  refine W.seq ?_
  obtain ⟨y7, hy8, H⟩ := of_bindO H
  refine W.region env [] [⟨.tup [.int .i64 (y7.1), .int .i64 (y7.2)], [], 0, []⟩] rfl rfl rfl .nil (.free (c_crew_Slack fuel (gasolierlaw04_team) ([([0, 2, 3] : List Int), ([1] : List Int)] : List (List Int)) hy8) .nil) (At.keep (ts := [1, 2, 3, 4, 5, 6, 7, 8, 9, 10]) (ids := [1, 7]) rfl rfl ?_)
  refine At.thenC ?_
  refine W.seq ?_
  obtain ⟨y9, hy10, H⟩ := of_bindO H
  refine W.region env [] [⟨.tup [roL 1 enc_Int y9.1, .int .i64 (y9.2)], [], 0, []⟩] rfl rfl rfl .nil (.free (Ctr.sim (.cons (.refl _) (.cons (.refl _) (.cons (Sim.lit2 (f := enc_ListInt) ([([0, 24] : List Int), ([] : List Int)] : List (List Int)) (.cons (Sim.lit (f := enc_Int) ([0, 24] : List Int) rfl rfl (fun _ => rfl)) (.cons (Sim.lit (f := enc_Int) ([] : List Int) rfl rfl (fun _ => rfl)) .nil)) rfl rfl (fun _ => rfl)) .nil))) (c_crew_Late (gasolierlaw04_team) ([([0, 2, 3] : List Int), ([1] : List Int)] : List (List Int)) ([([0, 24] : List Int), ([] : List Int)] : List (List Int)) hy10)) .nil) (At.keep (ts := [1, 2, 3, 4, 5, 6, 7, 8, 9, 10, 11, 12]) (ids := [1, 7]) rfl rfl ?_)
  refine At.thenC ?_
  refine W.seq ?_
  obtain ⟨y11, hy12, H⟩ := of_bindO H
  refine W.region env [] [⟨.tup [roL 1 enc_Int y11.1, .int .i64 (y11.2)], [], 0, []⟩] rfl rfl rfl .nil (.free (c_crew_Assign fuel (gasolierlaw04_team) ([([0, 2, 3] : List Int), ([1] : List Int)] : List (List Int)) hy12) .nil) (At.keep (ts := [1, 2, 3, 4, 5, 6, 7, 8, 9, 10, 11, 12, 13, 14]) (ids := [1, 7]) rfl rfl ?_)
  refine At.thenC ?_
  refine W.seq ?_
  obtain ⟨y13, hy14, H⟩ := of_bindO H
  refine W.region env [] [⟨.tup [.agg [roL 4 enc_Task y13.1.Tasks, roL 1 enc_ListRange y13.1.Travel, roL 3 enc_Hand y13.1.Hands], .int .i64 (y13.2)], [], 0, []⟩] rfl rfl rfl .nil (.free (c_crew_Ill (gasolierlaw04_team) 8 315 hy14) .nil) (At.keep (ts := [1, 2, 3, 4, 5, 6, 7, 8, 9, 10, 11, 12, 13, 14, 15, 16]) (ids := [1, 7, 15]) rfl rfl ?_)
  refine At.thenC ?_
  refine W.seq ?_
  obtain ⟨y15, hy16, H⟩ := of_bindO H
  refine W.region env [] [⟨.tup [roL 1 enc_Int y15.1, .int .i64 (y15.2)], [], 0, []⟩] rfl rfl rfl .nil (.free (c_crew_Short fuel y13.1 ([([0, 2, 3] : List Int), ([1] : List Int)] : List (List Int)) hy16) .nil) (At.keep (ts := [1, 3, 4, 5, 6, 7, 8, 9, 10, 11, 12, 13, 14, 16, 17, 18]) (ids := [1, 7]) rfl rfl ?_)
  refine At.thenC ?_
  refine W.seq ?_
  obtain ⟨y17, hy18, H⟩ := of_bindO H
  refine W.region env [] [⟨.tup [roL 1 enc_Int y17.1, .int .i64 (y17.2)], [], 0, []⟩] rfl rfl rfl .nil (.free (c_crew_Moved fuel (gasolierlaw04_team) hy18) .nil) (At.keep (ts := [1, 3, 4, 5, 6, 7, 8, 9, 10, 11, 12, 13, 14, 16, 17, 18, 19, 20]) (ids := [1, 7]) rfl rfl ?_)
  refine At.thenC ?_
  refine W.seq ?_
  refine W.region env [] [] rfl rfl rfl (.cons (fun h => h) (.cons (fun h => h) (.cons (fun h => h) (.cons (fun h => h) (.cons (fun h => h) (.cons (fun h => h) (.cons (fun h => h) (.cons (fun h => h) (.cons (fun h => h) (.cons (fun h => h) (.cons (fun h => h) (.cons (fun h => h) (.cons (fun h => h) (.cons (fun h => h) (.cons (fun h => h) (.cons (fun h => h) .nil)))))))))))))))) .nil (At.keep (ts := [1, 3, 5, 7, 9, 11, 13, 17, 19, 21]) (ids := [1, 7]) rfl rfl ?_)
  refine At.thenC ?_
  refine W.seq ?_
  obtain ⟨y19, hy20, H⟩ := of_bindO H
  obtain ⟨y21, hy22, H⟩ := of_bindO H
  obtain ⟨y23, hy24, H⟩ := of_bindO H
  obtain ⟨y25, hy26, H⟩ := of_bindO H
  obtain ⟨y27, hy28, H⟩ := of_bindO H
  obtain ⟨y29, hy30, H⟩ := of_bindO H
  refine W.region env [] [⟨.bool (y19), [], 0, []⟩, ⟨.bool (y21), [], 0, []⟩, ⟨.bool (y23), [], 0, []⟩, ⟨.bool (y25), [], 0, []⟩, ⟨.int .i64 (y27), [], 0, []⟩, ⟨.int .i64 (y29), [], 0, []⟩] rfl rfl rfl (.cons (fun h => h) (.cons (fun h => h) (.cons (fun h => h) (.cons (fun h => h) (.cons (fun h => h) (.cons (fun h => h) (.cons (fun h => h) (.cons (fun h => h) (.cons (fun h => h) (.cons (fun h => h) (.cons (fun h => h) (.cons (fun h => h) (.cons (fun h => h) (.cons (fun h => h) (.cons (fun h => h) (.cons (fun h => h) (.cons (fun h => h) (.cons (fun h => h) (.cons (fun h => h) (.cons (fun h => h) (.cons (fun h => h) (.cons (fun h => h) (.cons (fun h => h) (.cons (fun h => h) (.cons (fun h => h) (.cons (fun h => h) (.cons (fun h => h) (.cons (fun h => h) (.cons (fun h => h) (.cons (fun h => h) (.cons (fun h => h) .nil))))))))))))))))))))))))))))))) (.on (fun hW => Ctr.sim (.cons (.refl _) (.cons (Sim.lit (f := enc_Int) ([3] : List Int) rfl rfl (fun _ => rfl)) .nil)) (c_gasolierref01_Same y9.1 ([3] : List Int) (of_true hy20 hW))) (.on (fun hW => Ctr.sim (.cons (.refl _) (.cons (Sim.lit (f := enc_Int) ([7, 8] : List Int) rfl rfl (fun _ => rfl)) .nil)) (c_gasolierref01_Same y11.1 ([7, 8] : List Int) (of_true hy22 hW))) (.on (fun hW => Ctr.sim (.cons (.refl _) (.cons (Sim.lit (f := enc_Int) ([0, 1] : List Int) rfl rfl (fun _ => rfl)) .nil)) (c_gasolierref01_Same y15.1 ([0, 1] : List Int) (of_true hy24 hW))) (.on (fun hW => Ctr.sim (.cons (.refl _) (.cons (Sim.lit (f := enc_Int) ([2] : List Int) rfl rfl (fun _ => rfl)) .nil)) (c_gasolierref01_Same y17.1 ([2] : List Int) (of_true hy26 hW))) (.on (fun hW => Ctr.sim (.cons (.refl _) (.cons (Sim.lit2 (f := enc_ListInt) ([([0, 1] : List Int), ([2, 3] : List Int)] : List (List Int)) (.cons (Sim.lit (f := enc_Int) ([0, 1] : List Int) rfl rfl (fun _ => rfl)) (.cons (Sim.lit (f := enc_Int) ([2, 3] : List Int) rfl rfl (fun _ => rfl)) .nil)) rfl rfl (fun _ => rfl)) .nil)) (c_crew_CheckRounds (gasolierlaw04_team) ([([0, 1] : List Int), ([2, 3] : List Int)] : List (List Int)) (of_true hy28 hW))) (.on (fun hW => Ctr.sim (.cons (.refl _) (.cons (Sim.lit (f := enc_Int) ([0, 1] : List Int) rfl rfl (fun _ => rfl)) (.cons (.refl _) .nil))) (c_crew_CheckCut (gasolierlaw04_team) ([0, 1] : List Int) 2 (of_true hy30 hW))) .nil)))))) (At.keep (ts := [0]) (ids := []) rfl rfl ?_)
  refine At.thenC ?_
  refine W.ret ?_
  cases H
  exact At.ret env.ty rfl rfl (fun q hq => by cases hq) (.refl _) hval

theorem c_gasolierlaw04_CrewLate (fuel : Nat) (p0 : Crew) (p1 : gasolierlaw04_Plan) {r : Bool} (H : gasolierlaw04_CrewLate fuel p0 p1 = some r) : Ctr Try.prog 3 [.agg [roL 4 enc_Task p0.Tasks, roL 1 enc_ListRange p0.Travel, roL 3 enc_Hand p0.Hands], .agg [roL 1 enc_ListInt p1.Rounds, roL 1 enc_Int p1.Cut, .int .i64 (p1.Size), roL 1 enc_ListInt p1.Walks, roL 1 enc_Int p1.Hands]] (.bool (r)) := by
  unfold gasolierlaw04_CrewLate at H
  refine Ctr.of_body (N := 66) Try.func3 (by kernel_rfl) (c := _) rfl Try.ntmps3 rfl (fun w0 h0 hval => ?_)
  refine W.seq ?_
  refine W.region env [] [] rfl rfl rfl .nil .nil (At.keep (ts := [2, 3]) (ids := [2, 3]) rfl rfl ?_)
  refine At.thenC ?_
  refine W.seq ?_
  obtain ⟨y1, hy2, H⟩ := of_bindO H
  refine W.region env [] [⟨.tup [.int .i64 (y1.1), .int .i64 (y1.2)], [], 0, []⟩] rfl rfl rfl .nil (.free (c_crew_Slack fuel p0 p1.Rounds hy2) .nil) (At.keep (ts := [2, 3, 5, 6]) (ids := [2, 3]) rfl rfl ?_)
  refine At.thenC ?_
  refine W.seq ?_
  obtain ⟨y3, hy4, H⟩ := of_bindO H
  refine W.region env [] [⟨.tup [.int .i64 (y3.1), .int .i64 (y3.2)], [], 0, []⟩] rfl rfl rfl .nil (.free (c_gasolierref04_Slack fuel p0 p1.Rounds hy4) .nil) (At.keep (ts := [2, 3, 5, 6, 7, 8]) (ids := [2, 3]) rfl rfl ?_)
  refine At.thenC ?_
  refine W.seq ?_
  obtain ⟨y5, hy6, H⟩ := of_bindO H
  refine W.region env [] [⟨.tup [roL 1 enc_Int y5.1, .int .i64 (y5.2)], [], 0, []⟩] rfl rfl rfl .nil (.free (c_crew_Late p0 p1.Rounds p1.Walks hy6) .nil) (At.keep (ts := [2, 3, 5, 6, 7, 8, 9, 10]) (ids := [2, 3]) rfl rfl ?_)
  refine At.thenC ?_
  refine W.seq ?_
  obtain ⟨y7, hy8, H⟩ := of_bindO H
  refine W.region env [] [⟨.tup [roL 1 enc_Int y7.1, .int .i64 (y7.2)], [], 0, []⟩] rfl rfl rfl .nil (.free (c_gasolierref04_Late fuel p0 p1.Rounds p1.Walks hy8) .nil) (At.keep (ts := [5, 6, 7, 8, 9, 10, 11, 12]) (ids := []) rfl rfl ?_)
  refine At.thenC ?_
  refine W.seq ?_
  obtain ⟨y9, hy10, H⟩ := of_bindO H
  obtain ⟨y11, hy12, H⟩ := of_bindO H
  refine W.region env [] [⟨.bool (y9), [], 0, []⟩, ⟨.bool (y11), [], 0, []⟩] rfl rfl rfl (.cons (fun h => h) (.cons (fun h => h) (.cons (fun h => h) (.cons (fun h => h) (.cons (fun h => h) (.cons (fun h => h) (.cons (fun h => h) (.cons (fun h => h) (.cons (fun h => h) (.cons (fun h => h) .nil)))))))))) (.on (fun hW => c_gasolierref01_Same y5.1 y7.1 (of_true hy10 hW)) (.on (fun hW => c_gasolierlaw04_sane fuel (of_true hy12 hW)) .nil)) (At.keep (ts := [4]) (ids := []) rfl rfl ?_)
  refine At.thenC ?_
  refine W.ret ?_
  cases H
  exact At.ret env.ty rfl rfl (fun q hq => by cases hq) (.refl _) hval

end Go.Sp
