/- Printed by gen.py: contracts, part 3. -/
import Derived.Test.YtnaodipmfaglfaaCtr2
set_option linter.all false
set_option maxRecDepth 100000
namespace Go.Sp
open Go Go.Av Go.Proofs

theorem c_gasolierlaw04_walks (fuel : Nat) (p0 : Crew) (p1 : (List (List Int))) (p2 : (List Int)) (p3 : Int) {r : (List (List Int))} (H : gasolierlaw04_walks fuel p0 p1 p2 p3 = some r) : Ctr Try.prog 19 [.agg [roL 4 enc_Task p0.Tasks, roL 1 enc_ListRange p0.Travel, roL 3 enc_Hand p0.Hands], roL 1 enc_ListInt p1, roL 1 enc_Int p2, .int .i64 (p3)] (roL 1 enc_ListInt r) := by
  unfold gasolierlaw04_walks at H
  refine Ctr.of_body (N := 108) Try.func19 (by kernel_rfl) (c := _) rfl Try.ntmps19 rfl (fun w0 h0 hval => ?_)
  refine W.seq ?_
  refine W.region env [] [] rfl rfl rfl .nil .nil (At.keep (ts := [1, 2, 3, 4]) (ids := [4]) rfl rfl ?_)
  refine At.thenC ?_
  refine W.seq ?_
  refine W.region env [] [] rfl rfl rfl .nil .nil (At.keep (ts := [1, 2, 3, 4, 9]) (ids := [4]) rfl rfl ?_)
  refine At.thenC ?_
  refine W.seq ?_
  refine W.region env [] [] rfl rfl rfl .nil .nil (At.keep (ts := [1, 2, 3, 4, 9, 10]) (ids := [4]) rfl rfl ?_)
  refine At.thenC ?_
  refine W.seq ?_
  refine W.seq ?_
  refine W.region env [] [] rfl rfl rfl .nil .nil (At.keep (ts := [2, 3, 4, 9, 10, 18, 19, 20]) (ids := [4]) rfl rfl ?_)
  refine At.thenC ?_
  refine W.block ?_
  refine At.nilOwn 9 509 28 1 (e := fun i => enc_ListInt (([] : List (List Int)).getD i default)) rfl rfl ?_
  refine At.keep (ts := [2, 3, 4, 9, 10, 18, 19, 20]) (ids := [4, 509]) rfl rfl ?_
  refine W.len (t := 18) rfl (fun (hn1 : p1.length ≤ maxLen) => ?_)
  refine W.rangeGo H (fun i1 (s1 : Int × (List (List Int))) => [(2, roL 1 enc_Int p2), (3, .int .i64 (p3)), (4, .lp 4 0), (9, .buf 509 (s1.2).length), (10, .int .i64 (s1.1)), (18, roL 1 enc_ListInt p1), (19, .int .i64 (((p1.length : Nat) : Int))), (20, .int .i64 ((i1 : Int)))]) (fun i1 (s1 : Int × (List (List Int))) => [(4, .cells [roL 4 enc_Task p0.Tasks, roL 1 enc_ListRange p0.Travel, roL 3 enc_Hand p0.Hands]), (509, bufL 28 1 enc_ListInt s1.2)]) (.cons (.of_eq (by first | rfl | (simp; done) | omega | (simp; omega))) (.cons (.of_eq (by first | rfl | (simp; done) | omega | (refine intEq ?_; first | omega | (simp; done) | (simp; omega)) | (simp; omega))) (.cons (.of_eq (by first | rfl | (simp; done) | omega | (simp; omega))) (.cons (.of_eq (by refine bufEq ?_; first | (simp [copyAt]; done) | omega | (simp [copyAt]; omega) | (simp only [List.length_set] at *; omega) | rfl)) (.cons (.of_eq (by first | rfl | (simp; done) | omega | (refine intEq ?_; first | omega | (simp; done) | (simp; omega)) | (simp; omega))) (.cons (.of_eq (by first | rfl | (simp; done) | omega | (simp; omega))) (.cons (.of_eq (by first | rfl | (simp; done) | omega | (refine intEq ?_; first | omega | (simp; done) | (simp; omega)) | (simp; omega))) (.cons (.of_eq (by first | rfl | (simp; done) | omega | (refine intEq ?_; first | omega | (simp; done) | (simp; omega)) | (simp; omega))) .nil)))))))) (.cons (.of_eq (by first | rfl | (simp; done) | omega | (simp; omega))) (.cons (.of_eq (by first | rfl | (simp; done) | omega | (simp; omega))) .nil)) (fun k1 i1 s1 hle1 H1 H2 K0 hK1 => ?_)
  refine W.seq ?_
  refine W.region env [] [] rfl rfl rfl .nil .nil (At.keep (ts := [2, 3, 4, 9, 10, 18, 19, 20, 21]) (ids := [4, 509]) rfl rfl ?_)
  refine At.thenC ?_
  refine W.seq ?_
  refine W.cond rfl (fun hb2 => ?_) (fun hb2 => ?_)
  · have hi1 : i1 < p1.length := by have := of_decide_eq_true hb2; omega
    have H := H1 hi1
    refine W.skip ?_
    refine At.thenC ?_
    refine W.seq ?_
    refine W.block ?_
    refine W.seq ?_
    refine W.region env [] [] rfl rfl rfl (.cons (⟨by omega, by omega⟩ : 0 ≤ (i1 : Int) ∧ (i1 : Int) < ((p1.length : Nat) : Int)) .nil) .nil (At.keep (ts := [2, 3, 4, 9, 10, 12, 18, 19, 20]) (ids := [4, 509]) rfl rfl ?_)
    refine At.thenC ?_
    refine W.seq ?_
    refine W.region env [24] [] rfl rfl rfl .nil .nil (At.keep (ts := [2, 3, 4, 9, 10, 12, 13, 18, 19, 20]) (ids := [4, 24, 509]) rfl rfl ?_)
    refine At.convM (.cons (.refl _) (.cons (y := bufL 3 1 enc_Int ([] : List Int)) (BSim.seg (Seg.lit (f := enc_Int) (sz := 1) ([] : List Int) rfl rfl (fun _ => rfl))) (.cons (.refl _) .nil))) ?_
    refine At.thenC ?_
    refine W.seq ?_
    refine W.seq ?_
    refine W.region env [] [] rfl rfl rfl .nil .nil (At.keep (ts := [2, 3, 4, 9, 10, 12, 13, 14, 18, 19, 20]) (ids := [4, 24, 509]) rfl rfl ?_)
    refine At.thenC ?_
    refine W.block ?_
    refine At.keep (ts := [2, 3, 4, 9, 10, 12, 13, 14, 18, 19, 20]) (ids := [4, 24, 509]) rfl rfl ?_
    refine W.loopGo H (fun (s3 : Int × Int × (List Int)) => [(2, roL 1 enc_Int p2), (3, .int .i64 (p3)), (4, .lp 4 0), (9, .buf 509 (s1.2).length), (10, .int .i64 (s3.1)), (12, roL 1 enc_Int (p1.getD i1 default)), (13, .buf 24 (s3.2.2).length), (14, .int .i64 (s3.2.1)), (18, roL 1 enc_ListInt p1), (19, .int .i64 (((p1.length : Nat) : Int))), (20, .int .i64 ((i1 : Int)))]) (fun (s3 : Int × Int × (List Int)) => [(4, .cells [roL 4 enc_Task p0.Tasks, roL 1 enc_ListRange p0.Travel, roL 3 enc_Hand p0.Hands]), (24, bufL 3 1 enc_Int s3.2.2), (509, bufL 28 1 enc_ListInt s1.2)]) (.cons (.of_eq (by first | rfl | (simp; done) | omega | (simp; omega))) (.cons (.of_eq (by first | rfl | (simp; done) | omega | (refine intEq ?_; first | omega | (simp; done) | (simp; omega)) | (simp; omega))) (.cons (.of_eq (by first | rfl | (simp; done) | omega | (simp; omega))) (.cons (.of_eq (by refine bufEq ?_; first | (simp [copyAt]; done) | omega | (simp [copyAt]; omega) | (simp only [List.length_set] at *; omega) | rfl)) (.cons (.of_eq (by first | rfl | (simp; done) | omega | (refine intEq ?_; first | omega | (simp; done) | (simp; omega)) | (simp; omega))) (.cons (.of_eq (by first | rfl | (simp; done) | omega | (simp; omega))) (.cons (.of_eq (by refine bufEq ?_; first | (simp [copyAt]; done) | omega | (simp [copyAt]; omega) | (simp only [List.length_set] at *; omega) | rfl)) (.cons (.of_eq (by first | rfl | (simp; done) | omega | (refine intEq ?_; first | omega | (simp; done) | (simp; omega)) | (simp; omega))) (.cons (.of_eq (by first | rfl | (simp; done) | omega | (simp; omega))) (.cons (.of_eq (by first | rfl | (simp; done) | omega | (refine intEq ?_; first | omega | (simp; done) | (simp; omega)) | (simp; omega))) (.cons (.of_eq (by first | rfl | (simp; done) | omega | (refine intEq ?_; first | omega | (simp; done) | (simp; omega)) | (simp; omega))) .nil))))))))))) (.cons (.of_eq (by first | rfl | (simp; done) | omega | (simp; omega))) (.cons (.of_eq (by first | rfl | (simp; done) | omega | (simp; omega))) (.cons (.of_eq (by first | rfl | (simp; done) | omega | (simp; omega))) .nil))) (fun k3 s3 H K0 hK3 => ?_)
    refine W.seq ?_
    refine W.seq ?_
    refine W.region env [] [] rfl rfl rfl .nil .nil (At.keep (ts := [2, 3, 4, 9, 10, 12, 13, 14, 18, 19, 20, 28]) (ids := [4, 24, 509]) rfl rfl ?_)
    refine At.thenC ?_
    refine W.cond rfl (fun hb4 => ?_) (fun hb4 => ?_)
    · have H := of_true H hb4
      refine W.skip ?_
      refine At.thenC ?_
      refine W.seq ?_
      refine W.block ?_
      refine W.seq ?_
      obtain ⟨hc5, H⟩ := of_must H
      obtain ⟨hc6, H⟩ := of_must H
      obtain ⟨hc7, H⟩ := of_must H
      obtain ⟨hc8, H⟩ := of_must H
      obtain ⟨hc9, H⟩ := of_must H
      obtain ⟨hc10, H⟩ := of_must H
      obtain ⟨hc11, H⟩ := of_must H
      refine W.region env [] [] rfl rfl (by first | rfl | kernel_rfl) (.cons hc5 (.cons hc6 (.cons hc7 (.cons hc8 (.cons hc9 (.cons hc10 (.cons hc11 .nil))))))) .nil (At.keep (ts := [2, 3, 4, 9, 10, 12, 13, 14, 15, 18, 19, 20]) (ids := [4, 15, 24, 509]) rfl rfl ?_)
      refine At.thenC ?_
      refine W.seq ?_
      obtain ⟨y12, hy13, H⟩ := of_bindO H
      obtain ⟨hc14, H⟩ := of_must H
      obtain ⟨hc15, H⟩ := of_must H
      obtain ⟨y16, hy17, H⟩ := of_bindO H
      obtain ⟨hc18, H⟩ := of_must H
      refine W.region env [] [⟨.int .i64 (y12), [], 0, []⟩, ⟨.int .i64 (y16), [], 0, []⟩] rfl rfl (by kernel_rfl) (.cons hc14 (.cons hc15 (.cons hc18 .nil))) (.free (c_gasolierref01_Pick p2 s3.1 hy13) (.free (c_gasolierref01_Mod y12 ((((p0.Travel.getD ((p0.Tasks.getD (((p1.getD i1 default).getD ((s3.2.1 - 1)).toNat default)).toNat default).Place).toNat default).getD ((p0.Tasks.getD (((p1.getD i1 default).getD (s3.2.1).toNat default)).toNat default).Place).toNat default).Hi - ((p0.Travel.getD ((p0.Tasks.getD (((p1.getD i1 default).getD ((s3.2.1 - 1)).toNat default)).toNat default).Place).toNat default).getD ((p0.Tasks.getD (((p1.getD i1 default).getD (s3.2.1).toNat default)).toNat default).Place).toNat default).Lo) + 1) hy17) .nil)) (At.keep (ts := [2, 3, 4, 9, 10, 12, 13, 14, 15, 16, 18, 19, 20]) (ids := [4, 15, 24, 509]) rfl rfl ?_)
      refine At.thenC ?_
      refine W.seq ?_
      refine W.seq ?_
      refine W.region env [] [] rfl rfl rfl .nil .nil (At.keep (ts := [2, 3, 4, 9, 10, 12, 13, 14, 15, 16, 18, 19, 20, 70]) (ids := [4, 15, 24, 509]) rfl rfl ?_)
      refine At.thenC ?_
      refine W.joinC H (fun (s19 : Int) => [(2, roL 1 enc_Int p2), (3, .int .i64 (p3)), (4, .lp 4 0), (9, .buf 509 (s1.2).length), (10, .int .i64 (s3.1)), (12, roL 1 enc_Int (p1.getD i1 default)), (13, .buf 24 (s3.2.2).length), (14, .int .i64 (s3.2.1)), (16, .int .i64 (s19)), (18, roL 1 enc_ListInt p1), (19, .int .i64 (((p1.length : Nat) : Int))), (20, .int .i64 ((i1 : Int)))]) (fun (s19 : Int) => [(4, .cells [roL 4 enc_Task p0.Tasks, roL 1 enc_ListRange p0.Travel, roL 3 enc_Hand p0.Hands]), (24, bufL 3 1 enc_Int s3.2.2), (509, bufL 28 1 enc_ListInt s1.2)]) (fun s19 H => ?_) (fun k19 H hK19 => ?_)
      · refine W.seq ?_
        obtain ⟨hc20, H⟩ := of_must H
        refine W.region env [] [] rfl rfl rfl (.cons (⟨by first | rfl | (simp; done) | omega | (simp; omega), by have := hc20; first | simpa using this | (unfold room at this ⊢; simp at this ⊢; omega)⟩) .nil) .nil (At.keep (ts := [2, 3, 4, 9, 10, 12, 13, 14, 18, 19, 20]) (ids := [4, 24, 509]) rfl rfl ?_)
        refine At.convM (.cons (.refl _) (.cons (y := bufL 3 1 enc_Int (s3.2.2 ++ ([s19] : List Int))) (BSim.seg (Seg.push (Seg.refl enc_Int _) (Seg.lit (f := enc_Int) (sz := 1) ([s19] : List Int) rfl rfl (fun _ => rfl)))) (.cons (.refl _) .nil))) ?_
        refine At.thenC ?_
        obtain ⟨hc21, H⟩ := of_must H
        refine W.region env [] [] rfl rfl rfl (.cons hc21 .nil) .nil (At.keep (ts := [2, 3, 4, 9, 10, 12, 13, 14, 18, 19, 20]) (ids := [4, 24, 509]) rfl rfl ?_)
        refine At.inb ?_
        refine At.thenC ?_
        obtain ⟨hc22, H⟩ := of_must H
        refine W.region env [] [] rfl rfl rfl (.cons hc22 .nil) .nil (At.keep (ts := [2, 3, 4, 9, 10, 12, 13, 14, 18, 19, 20]) (ids := [4, 24, 509]) rfl rfl ?_)
        refine At.thenK (At.keep (ts := [2, 3, 4, 9, 10, 12, 13, 14, 18, 19, 20]) (ids := [4, 24, 509]) rfl rfl ?_)
        exact At.conv (.cons (.of_eq (by first | rfl | (simp; done) | omega | (simp; omega))) (.cons (.of_eq (by first | rfl | (simp; done) | omega | (refine intEq ?_; first | omega | (simp; done) | (simp; omega)) | (simp; omega))) (.cons (.of_eq (by first | rfl | (simp; done) | omega | (simp; omega))) (.cons (.of_eq (by refine bufEq ?_; first | (simp [copyAt]; done) | omega | (simp [copyAt]; omega) | (simp only [List.length_set] at *; omega) | rfl)) (.cons (.of_eq (by first | rfl | (simp; done) | omega | (refine intEq ?_; first | omega | (simp; done) | (simp; omega)) | (simp; omega))) (.cons (.of_eq (by first | rfl | (simp; done) | omega | (simp; omega))) (.cons (.of_eq (by refine bufEq ?_; first | (simp [copyAt]; done) | omega | (simp [copyAt]; omega) | (simp only [List.length_set] at *; omega) | rfl)) (.cons (.of_eq (by first | rfl | (simp; done) | omega | (refine intEq ?_; first | omega | (simp; done) | (simp; omega)) | (simp; omega))) (.cons (.of_eq (by first | rfl | (simp; done) | omega | (simp; omega))) (.cons (.of_eq (by first | rfl | (simp; done) | omega | (refine intEq ?_; first | omega | (simp; done) | (simp; omega)) | (simp; omega))) (.cons (.of_eq (by first | rfl | (simp; done) | omega | (refine intEq ?_; first | omega | (simp; done) | (simp; omega)) | (simp; omega))) .nil))))))))))) (.cons (.of_eq (by first | rfl | (simp; done) | omega | (simp; omega))) (.cons (.of_eq (by first | rfl | (simp; done) | omega | (simp; omega))) (.cons (.of_eq (by first | rfl | (simp; done) | omega | (simp; omega))) .nil))) (hK3 ((s3.1 + 1), (s3.2.1 + 1), (s3.2.2 ++ ([s19] : List Int))) H)
      · refine W.cond rfl (fun hb23 => ?_) (fun hb23 => ?_)
        · have H := of_true H hb23
          refine W.region env [] [] rfl rfl rfl .nil .nil (At.keep (ts := [2, 3, 4, 9, 10, 12, 13, 14, 16, 18, 19, 20]) (ids := [4, 24, 509]) rfl rfl ?_)
          refine At.thenK (At.keep (ts := [2, 3, 4, 9, 10, 12, 13, 14, 16, 18, 19, 20]) (ids := [4, 24, 509]) rfl rfl ?_)
          exact At.conv (.cons (.of_eq (by first | rfl | (simp; done) | omega | (simp; omega))) (.cons (.of_eq (by first | rfl | (simp; done) | omega | (refine intEq ?_; first | omega | (simp; done) | (simp; omega)) | (simp; omega))) (.cons (.of_eq (by first | rfl | (simp; done) | omega | (simp; omega))) (.cons (.of_eq (by refine bufEq ?_; first | (simp [copyAt]; done) | omega | (simp [copyAt]; omega) | (simp only [List.length_set] at *; omega) | rfl)) (.cons (.of_eq (by first | rfl | (simp; done) | omega | (refine intEq ?_; first | omega | (simp; done) | (simp; omega)) | (simp; omega))) (.cons (.of_eq (by first | rfl | (simp; done) | omega | (simp; omega))) (.cons (.of_eq (by refine bufEq ?_; first | (simp [copyAt]; done) | omega | (simp [copyAt]; omega) | (simp only [List.length_set] at *; omega) | rfl)) (.cons (.of_eq (by first | rfl | (simp; done) | omega | (refine intEq ?_; first | omega | (simp; done) | (simp; omega)) | (simp; omega))) (.cons (.of_eq (by first | rfl | (simp; done) | omega | (refine intEq ?_; first | omega | (simp; done) | (simp; omega)) | (simp; omega))) (.cons (.of_eq (by first | rfl | (simp; done) | omega | (simp; omega))) (.cons (.of_eq (by first | rfl | (simp; done) | omega | (refine intEq ?_; first | omega | (simp; done) | (simp; omega)) | (simp; omega))) (.cons (.of_eq (by first | rfl | (simp; done) | omega | (refine intEq ?_; first | omega | (simp; done) | (simp; omega)) | (simp; omega))) .nil)))))))))))) (.cons (.of_eq (by first | rfl | (simp; done) | omega | (simp; omega))) (.cons (.of_eq (by first | rfl | (simp; done) | omega | (simp; omega))) (.cons (.of_eq (by first | rfl | (simp; done) | omega | (simp; omega))) .nil))) (hK19 ((p0.Travel.getD ((p0.Tasks.getD (((p1.getD i1 default).getD ((s3.2.1 - 1)).toNat default)).toNat default).Place).toNat default).getD ((p0.Tasks.getD (((p1.getD i1 default).getD (s3.2.1).toNat default)).toNat default).Place).toNat default).Hi H)
        · have H := of_false H hb23
          refine W.skip ?_
          refine At.thenK (At.keep (ts := [2, 3, 4, 9, 10, 12, 13, 14, 16, 18, 19, 20]) (ids := [4, 24, 509]) rfl rfl ?_)
          exact At.conv (.cons (.of_eq (by first | rfl | (simp; done) | omega | (simp; omega))) (.cons (.of_eq (by first | rfl | (simp; done) | omega | (refine intEq ?_; first | omega | (simp; done) | (simp; omega)) | (simp; omega))) (.cons (.of_eq (by first | rfl | (simp; done) | omega | (simp; omega))) (.cons (.of_eq (by refine bufEq ?_; first | (simp [copyAt]; done) | omega | (simp [copyAt]; omega) | (simp only [List.length_set] at *; omega) | rfl)) (.cons (.of_eq (by first | rfl | (simp; done) | omega | (refine intEq ?_; first | omega | (simp; done) | (simp; omega)) | (simp; omega))) (.cons (.of_eq (by first | rfl | (simp; done) | omega | (simp; omega))) (.cons (.of_eq (by refine bufEq ?_; first | (simp [copyAt]; done) | omega | (simp [copyAt]; omega) | (simp only [List.length_set] at *; omega) | rfl)) (.cons (.of_eq (by first | rfl | (simp; done) | omega | (refine intEq ?_; first | omega | (simp; done) | (simp; omega)) | (simp; omega))) (.cons (.of_eq (by first | rfl | (simp; done) | omega | (refine intEq ?_; first | omega | (simp; done) | (simp; omega)) | (simp; omega))) (.cons (.of_eq (by first | rfl | (simp; done) | omega | (simp; omega))) (.cons (.of_eq (by first | rfl | (simp; done) | omega | (refine intEq ?_; first | omega | (simp; done) | (simp; omega)) | (simp; omega))) (.cons (.of_eq (by first | rfl | (simp; done) | omega | (refine intEq ?_; first | omega | (simp; done) | (simp; omega)) | (simp; omega))) .nil)))))))))))) (.cons (.of_eq (by first | rfl | (simp; done) | omega | (simp; omega))) (.cons (.of_eq (by first | rfl | (simp; done) | omega | (simp; omega))) (.cons (.of_eq (by first | rfl | (simp; done) | omega | (simp; omega))) .nil))) (hK19 (((p0.Travel.getD ((p0.Tasks.getD (((p1.getD i1 default).getD ((s3.2.1 - 1)).toNat default)).toNat default).Place).toNat default).getD ((p0.Tasks.getD (((p1.getD i1 default).getD (s3.2.1).toNat default)).toNat default).Place).toNat default).Lo + y16) H)
    · have H := of_false H hb4
      refine W.exit ?_
      refine At.xthen ?_
      refine At.xthen ?_
      refine At.xhere ?_
      refine At.thenC ?_
      refine W.seq ?_
      refine W.seq ?_
      refine W.region env [] [] rfl rfl rfl (.cons (by first | rfl | (simp; done) | omega | (simp; omega)) (.cons (fun h => h) (.cons (fun h => h) .nil))) .nil (At.keep (ts := [2, 3, 4, 9, 10, 13, 18, 19, 20, 85]) (ids := [4, 24, 509]) rfl rfl ?_)
      refine At.thenC ?_
      refine W.joinC H (fun (s24 : (List Int)) => [(2, roL 1 enc_Int p2), (3, .int .i64 (p3)), (4, .lp 4 0), (9, .buf 509 (s1.2).length), (10, .int .i64 (s3.1)), (13, .buf 24 (s24).length), (18, roL 1 enc_ListInt p1), (19, .int .i64 (((p1.length : Nat) : Int))), (20, .int .i64 ((i1 : Int)))]) (fun (s24 : (List Int)) => [(4, .cells [roL 4 enc_Task p0.Tasks, roL 1 enc_ListRange p0.Travel, roL 3 enc_Hand p0.Hands]), (24, bufL 3 1 enc_Int s24), (509, bufL 28 1 enc_ListInt s1.2)]) (fun s24 H => ?_) (fun k24 H hK24 => ?_)
      · refine At.freeze 13 24 (K := [4, 509]) (ts := [2, 3, 4, 9, 10, 18, 19, 20]) rfl rfl (by first | rfl | (simp; done) | omega | (simp; omega)) rfl rfl rfl (fun _ h => h) ?_
        obtain ⟨hc25, H⟩ := of_must H
        refine W.region env [] [] rfl rfl rfl (.cons (⟨by first | rfl | (simp; done) | omega | (simp; omega), by have := hc25; first | simpa using this | (unfold room at this ⊢; simp at this ⊢; omega)⟩) .nil) .nil (At.keep (ts := [2, 3, 4, 9, 10, 18, 19, 20]) (ids := [4, 509]) rfl rfl ?_)
        refine At.convM (.cons (.refl _) (.cons (y := bufL 28 1 enc_ListInt (s1.2 ++ ([s24] : List (List Int)))) (BSim.seg (Seg.push (Seg.refl enc_ListInt _) (Seg.lit (f := enc_ListInt) (sz := 1) ([s24] : List (List Int)) rfl rfl (fun _ => rfl)))) .nil)) ?_
        refine At.inb ?_
        refine At.thenC ?_
        refine W.region env [] [] rfl rfl rfl (.cons (by unfold inI; have := hn1; (try unfold maxLen at this); omega) .nil) .nil (At.keep (ts := [2, 3, 4, 9, 10, 18, 19, 20]) (ids := [4, 509]) rfl rfl ?_)
        refine At.thenK (At.keep (ts := [2, 3, 4, 9, 10, 18, 19, 20]) (ids := [4, 509]) rfl rfl ?_)
        exact At.conv (.cons (.of_eq (by first | rfl | (simp; done) | omega | (simp; omega))) (.cons (.of_eq (by first | rfl | (simp; done) | omega | (refine intEq ?_; first | omega | (simp; done) | (simp; omega)) | (simp; omega))) (.cons (.of_eq (by first | rfl | (simp; done) | omega | (simp; omega))) (.cons (.of_eq (by refine bufEq ?_; first | (simp [copyAt]; done) | omega | (simp [copyAt]; omega) | (simp only [List.length_set] at *; omega) | rfl)) (.cons (.of_eq (by first | rfl | (simp; done) | omega | (refine intEq ?_; first | omega | (simp; done) | (simp; omega)) | (simp; omega))) (.cons (.of_eq (by first | rfl | (simp; done) | omega | (simp; omega))) (.cons (.of_eq (by first | rfl | (simp; done) | omega | (refine intEq ?_; first | omega | (simp; done) | (simp; omega)) | (simp; omega))) (.cons (.of_eq (by first | rfl | (simp; done) | omega | (refine intEq ?_; first | omega | (simp; done) | (simp; omega)) | (simp; omega))) .nil)))))))) (.cons (.of_eq (by first | rfl | (simp; done) | omega | (simp; omega))) (.cons (.of_eq (by first | rfl | (simp; done) | omega | (simp; omega))) .nil)) (hK1 hi1 (s3.1, (s1.2 ++ ([s24] : List (List Int)))) H)
      · refine W.cond rfl (fun hb26 => ?_) (fun hb26 => ?_)
        · have H := of_true H hb26
          refine W.seq ?_
          obtain ⟨y27, hy28, H⟩ := of_bindO H
          obtain ⟨y29, hy30, H⟩ := of_bindO H
          refine W.region env [] [⟨.int .i64 (y27), [], 0, []⟩, ⟨.int .i64 (y29), [], 0, []⟩] rfl rfl rfl (.cons (by first | rfl | (simp; done) | omega | (simp; omega)) .nil) (.free (c_gasolierref01_Pick p2 s3.1 hy28) (.free (c_gasolierref01_Mod y27 ((s3.2.2.length : Nat) : Int) hy30) .nil)) (At.keep (ts := [2, 3, 4, 9, 10, 13, 17, 18, 19, 20]) (ids := [4, 24, 509]) rfl rfl ?_)
          refine At.thenC ?_
          obtain ⟨hc31, H⟩ := of_must H
          obtain ⟨hc32, H⟩ := of_must H
          obtain ⟨hc33, H⟩ := of_must H
          refine W.region env [] [] rfl rfl rfl (.cons (⟨by first | rfl | (simp; done) | omega | (simp; omega), hc31⟩) (.cons (⟨by first | rfl | (simp; done) | omega | (simp; omega), (by have := hc31; first | omega | (simp only [List.length_set]; omega) | (simp only [Int.toNat_natCast] at *; omega) | (simp at this ⊢; omega))⟩) (.cons hc32 (.cons (⟨by first | rfl | (simp; done) | omega | (simp; omega), hc33⟩) (.cons (⟨by first | rfl | (simp; done) | omega | (simp; omega), (by have := hc33; first | omega | (simp only [List.length_set]; omega) | (simp only [Int.toNat_natCast] at *; omega) | (simp at this ⊢; omega))⟩) .nil))))) .nil (At.keep (ts := [2, 3, 4, 9, 10, 13, 18, 19, 20]) (ids := [4, 24, 509]) rfl rfl ?_)
          refine At.convM (.cons (.refl _) (.cons (y := bufL 3 1 enc_Int (s3.2.2.set (y29).toNat (min 600 ((s3.2.2.getD (y29).toNat default) + p3)))) (BSim.seg (Seg.set (Seg.refl enc_Int _) (min 600 ((s3.2.2.getD (y29).toNat default) + p3)) rfl)) (.cons (.refl _) .nil))) ?_
          refine At.thenK (At.keep (ts := [2, 3, 4, 9, 10, 13, 18, 19, 20]) (ids := [4, 24, 509]) rfl rfl ?_)
          exact At.conv (.cons (.of_eq (by first | rfl | (simp; done) | omega | (simp; omega))) (.cons (.of_eq (by first | rfl | (simp; done) | omega | (refine intEq ?_; first | omega | (simp; done) | (simp; omega)) | (simp; omega))) (.cons (.of_eq (by first | rfl | (simp; done) | omega | (simp; omega))) (.cons (.of_eq (by refine bufEq ?_; first | (simp [copyAt]; done) | omega | (simp [copyAt]; omega) | (simp only [List.length_set] at *; omega) | rfl)) (.cons (.of_eq (by first | rfl | (simp; done) | omega | (refine intEq ?_; first | omega | (simp; done) | (simp; omega)) | (simp; omega))) (.cons (.of_eq (by refine bufEq ?_; first | (simp [copyAt]; done) | omega | (simp [copyAt]; omega) | (simp only [List.length_set] at *; omega) | rfl)) (.cons (.of_eq (by first | rfl | (simp; done) | omega | (simp; omega))) (.cons (.of_eq (by first | rfl | (simp; done) | omega | (refine intEq ?_; first | omega | (simp; done) | (simp; omega)) | (simp; omega))) (.cons (.of_eq (by first | rfl | (simp; done) | omega | (refine intEq ?_; first | omega | (simp; done) | (simp; omega)) | (simp; omega))) .nil))))))))) (.cons (.of_eq (by first | rfl | (simp; done) | omega | (simp; omega))) (.cons (.of_eq (by first | rfl | (simp; done) | omega | (simp; omega))) (.cons (.of_eq (by first | rfl | (simp; done) | omega | (simp; omega))) .nil))) (hK24 (s3.2.2.set (y29).toNat (min 600 ((s3.2.2.getD (y29).toNat default) + p3))) H)
        · have H := of_false H hb26
          refine W.skip ?_
          refine At.thenK (At.keep (ts := [2, 3, 4, 9, 10, 13, 18, 19, 20]) (ids := [4, 24, 509]) rfl rfl ?_)
          exact At.conv (.cons (.of_eq (by first | rfl | (simp; done) | omega | (simp; omega))) (.cons (.of_eq (by first | rfl | (simp; done) | omega | (refine intEq ?_; first | omega | (simp; done) | (simp; omega)) | (simp; omega))) (.cons (.of_eq (by first | rfl | (simp; done) | omega | (simp; omega))) (.cons (.of_eq (by refine bufEq ?_; first | (simp [copyAt]; done) | omega | (simp [copyAt]; omega) | (simp only [List.length_set] at *; omega) | rfl)) (.cons (.of_eq (by first | rfl | (simp; done) | omega | (refine intEq ?_; first | omega | (simp; done) | (simp; omega)) | (simp; omega))) (.cons (.of_eq (by refine bufEq ?_; first | (simp [copyAt]; done) | omega | (simp [copyAt]; omega) | (simp only [List.length_set] at *; omega) | rfl)) (.cons (.of_eq (by first | rfl | (simp; done) | omega | (simp; omega))) (.cons (.of_eq (by first | rfl | (simp; done) | omega | (refine intEq ?_; first | omega | (simp; done) | (simp; omega)) | (simp; omega))) (.cons (.of_eq (by first | rfl | (simp; done) | omega | (refine intEq ?_; first | omega | (simp; done) | (simp; omega)) | (simp; omega))) .nil))))))))) (.cons (.of_eq (by first | rfl | (simp; done) | omega | (simp; omega))) (.cons (.of_eq (by first | rfl | (simp; done) | omega | (simp; omega))) (.cons (.of_eq (by first | rfl | (simp; done) | omega | (simp; omega))) .nil))) (hK24 s3.2.2 H)
  · have H := H2 (by have := of_decide_eq_false hb2; omega)
    refine W.exit ?_
    refine At.xthen ?_
    refine At.xthen ?_
    refine At.xhere ?_
    refine At.thenC ?_
    refine W.seq ?_
    refine W.region env [] [] rfl rfl rfl .nil .nil (At.keep (ts := [8]) (ids := [509]) rfl rfl ?_)
    refine At.thenC ?_
    refine W.ret ?_
    cases H
    exact At.ret env.ty rfl rfl (fun q hq => by cases hq; exact (by first | rfl | (simp; done) | omega | (simp; omega))) (.refl _) hval

theorem c_gasolierlaw04_CrewTime (fuel : Nat) (p0 : Crew) (p1 : (List Int)) {r : Bool} (H : gasolierlaw04_CrewTime fuel p0 p1 = some r) : Ctr Try.prog 4 [.agg [roL 4 enc_Task p0.Tasks, roL 1 enc_ListRange p0.Travel, roL 3 enc_Hand p0.Hands], roL 1 enc_Int p1] (.bool (r)) := by
  unfold gasolierlaw04_CrewTime at H
  refine Ctr.of_body (N := 94) Try.func4 (by kernel_rfl) (c := _) rfl Try.ntmps4 rfl (fun w0 h0 hval => ?_)
  refine W.seq ?_
  refine W.region env [] [] rfl rfl rfl .nil .nil (At.keep (ts := [1, 2]) (ids := [2]) rfl rfl ?_)
  refine At.thenC ?_
  refine W.seq ?_
  refine W.seq ?_
  obtain ⟨y1, hy2, H⟩ := of_bindO H
  refine W.region env [] [⟨.int .i64 (y1), [], 0, []⟩] rfl rfl rfl .nil (.free (c_gasolierref04_Check p0 hy2) .nil) (At.keep (ts := [1, 2, 15]) (ids := [2]) rfl rfl ?_)
  refine At.thenC ?_
  refine W.cond rfl (fun hb3 => ?_) (fun hb3 => ?_)
  · have H := of_true H hb3
    refine W.seq ?_
    obtain ⟨y4, hy5, H⟩ := of_bindO H
    obtain ⟨y6, hy7, H⟩ := of_bindO H
    refine W.region env [] [⟨.int .i64 (y4), [], 0, []⟩, ⟨.bool (y6), [], 0, []⟩] rfl rfl rfl (.cons (fun h => h) .nil) (.free (c_crew_Check p0 hy5) (.on (fun hW => c_gasolierlaw04_sane fuel (of_true hy7 hW)) .nil)) (At.keep (ts := [4]) (ids := []) rfl rfl ?_)
    refine At.thenC ?_
    refine W.ret ?_
    refine At.rthen ?_
    cases H
    exact At.ret env.ty rfl rfl (fun q hq => by cases hq) (.refl _) hval
  · have H := of_false H hb3
    refine W.skip ?_
    refine At.thenC ?_
    refine W.seq ?_
    obtain ⟨y8, hy9, H⟩ := of_bindO H
    refine W.region env [] [⟨.tup [roL 1 enc_ListInt y8.1, .int .i64 (y8.2)], [], 0, []⟩] rfl rfl rfl .nil (.free (c_crew_Rounds fuel p0 hy9) .nil) (At.keep (ts := [1, 2, 5, 6]) (ids := [2]) rfl rfl ?_)
    refine At.thenC ?_
    refine W.seq ?_
    refine W.seq ?_
    obtain ⟨y10, hy11, H⟩ := of_bindO H
    refine W.region env [] [⟨.int .i64 (y10), [], 0, []⟩] rfl rfl rfl (.cons (fun h => h) (.cons (fun h => h) (.cons (fun h => h) (.cons (fun h => by rw [h]; rfl) .nil)))) (.on (fun hW => c_gasolierref04_CheckRounds p0 y8.1 (of_true hy11 hW)) .nil) (At.keep (ts := [1, 2, 5, 34]) (ids := [2]) rfl rfl ?_)
    refine At.thenC ?_
    refine W.cond rfl (fun hb12 => ?_) (fun hb12 => ?_)
    · have H := of_true H hb12
      refine W.seq ?_
      refine W.region env [] [] rfl rfl rfl .nil .nil (At.keep (ts := [4]) (ids := []) rfl rfl ?_)
      refine At.thenC ?_
      refine W.ret ?_
      refine At.rthen ?_
      cases H
      exact At.ret env.ty rfl rfl (fun q hq => by cases hq) (.refl _) hval
    · have H := of_false H hb12
      refine W.skip ?_
      refine At.thenC ?_
      refine W.seq ?_
      obtain ⟨y13, hy14, H⟩ := of_bindO H
      obtain ⟨y15, hy16, H⟩ := of_bindO H
      refine W.region env [] [⟨roL 1 enc_ListInt y13, [], 0, []⟩, ⟨.tup [roL 1 enc_Int y15.1, .int .i64 (y15.2)], [], 0, []⟩] rfl rfl (by kernel_rfl) .nil (.free (c_gasolierlaw04_walks fuel p0 y8.1 p1 0 hy14) (.free (c_crew_Late p0 y8.1 y13 hy16) .nil)) (At.keep (ts := [1, 2, 5, 7, 8]) (ids := [2]) rfl rfl ?_)
      refine At.thenC ?_
      refine W.seq ?_
      obtain ⟨y17, hy18, H⟩ := of_bindO H
      refine W.region env [] [⟨.tup [.int .i64 (y17.1), .int .i64 (y17.2)], [], 0, []⟩] rfl rfl rfl .nil (.free (c_crew_Slack fuel p0 y8.1 hy18) .nil) (At.keep (ts := [1, 2, 5, 7, 8, 9, 10]) (ids := [2]) rfl rfl ?_)
      refine At.thenC ?_
      refine W.seq ?_
      refine W.seq ?_
      refine W.region env [] [] rfl rfl rfl (.cons (fun h => h) (.cons (fun h => h) (.cons (fun h => by rw [h]; rfl) .nil))) .nil (At.keep (ts := [1, 2, 5, 9, 10, 57]) (ids := [2]) rfl rfl ?_)
      refine At.thenC ?_
      refine W.cond rfl (fun hb19 => ?_) (fun hb19 => ?_)
      · have H := of_true H hb19
        refine W.seq ?_
        refine W.region env [] [] rfl rfl rfl .nil .nil (At.keep (ts := [4]) (ids := []) rfl rfl ?_)
        refine At.thenC ?_
        refine W.ret ?_
        refine At.rthen ?_
        cases H
        exact At.ret env.ty rfl rfl (fun q hq => by cases hq) (.refl _) hval
      · have H := of_false H hb19
        refine W.skip ?_
        refine At.thenC ?_
        refine W.seq ?_
        refine W.seq ?_
        refine W.region env [] [] rfl rfl rfl .nil .nil (At.keep (ts := [1, 2, 5, 9, 10, 59]) (ids := [2]) rfl rfl ?_)
        refine At.thenC ?_
        refine W.cond rfl (fun hb20 => ?_) (fun hb20 => ?_)
        · have H := of_true H hb20
          refine W.seq ?_
          obtain ⟨y21, hy22, H⟩ := of_bindO H
          refine W.region env [] [⟨.bool (y21), [], 0, []⟩] rfl rfl rfl (.cons (fun h => h) (.cons (fun h => h) (.cons (fun h => h) .nil))) (.on (fun hW => c_gasolierlaw04_sane fuel (of_true hy22 hW)) .nil) (At.keep (ts := [4]) (ids := []) rfl rfl ?_)
          refine At.thenC ?_
          refine W.ret ?_
          refine At.rthen ?_
          cases H
          exact At.ret env.ty rfl rfl (fun q hq => by cases hq) (.refl _) hval
        · have H := of_false H hb20
          refine W.skip ?_
          refine At.thenC ?_
          refine W.seq ?_
          obtain ⟨y23, hy24, H⟩ := of_bindO H
          obtain ⟨y25, hy26, H⟩ := of_bindO H
          refine W.region env [] [⟨roL 1 enc_ListInt y23, [], 0, []⟩, ⟨.tup [roL 1 enc_Int y25.1, .int .i64 (y25.2)], [], 0, []⟩] rfl rfl (by kernel_rfl) .nil (.free (c_gasolierlaw04_walks fuel p0 y8.1 p1 y17.1 hy24) (.free (c_crew_Late p0 y8.1 y23 hy26) .nil)) (At.keep (ts := [9, 11, 12]) (ids := []) rfl rfl ?_)
          refine At.thenC ?_
          refine W.seq ?_
          obtain ⟨y27, hy28, H⟩ := of_bindO H
          refine W.region env [] [⟨.bool (y27), [], 0, []⟩] rfl rfl rfl (.cons (fun h => h) (.cons (fun h => h) (.cons (fun h => h) (.cons (fun h => h) (.cons (fun h => h) (.cons (fun h => h) .nil)))))) (.on (fun hW => c_gasolierlaw04_sane fuel (of_true hy28 hW)) .nil) (At.keep (ts := [4]) (ids := []) rfl rfl ?_)
          refine At.thenC ?_
          refine W.ret ?_
          cases H
          exact At.ret env.ty rfl rfl (fun q hq => by cases hq) (.refl _) hval

end Go.Sp
