/- Printed by gen.py: contracts, part 2. -/
import Derived.Test.YtjeolkdhicmhgaaCtr1
set_option linter.all false
set_option maxRecDepth 100000
namespace Go.Sp
open Go Go.Av Go.Proofs

theorem c_gasolierref03_isPlace (p0 : Chart) (p1 : Int) {r : Bool} (H : gasolierref03_isPlace p0 p1 = some r) : Ctr Try.prog 113 [.agg [.int .i64 (p0.Places), roL 7 enc_Way p0.Ways], .int .i64 (p1)] (.bool (r)) := by
  unfold gasolierref03_isPlace at H
  refine Ctr.of_body (N := 10) Try.func113 (by kernel_rfl) (c := _) rfl Try.ntmps113 rfl (fun w0 h0 hval => ?_)
  refine W.seq ?_
  refine W.region env [] [] rfl rfl rfl .nil .nil (At.keep (ts := [1, 2]) (ids := [2]) rfl rfl ?_)
  refine At.thenC ?_
  refine W.seq ?_
  obtain ⟨hc1, H⟩ := of_must H
  refine W.region env [] [⟨.bool ((gasolierref03_In p1 0 (p0.Places - 1))), [], 0⟩] rfl rfl rfl (.cons hc1 .nil) (.free (c_gasolierref03_In p1 0 (p0.Places - 1)) .nil) (At.keep (ts := [4]) (ids := []) rfl rfl ?_)
  refine At.thenC ?_
  refine W.ret ?_
  cases H
  exact At.ret env.ty rfl rfl (fun q hq => by cases hq) (.refl _) hval

theorem c_gasolierref03_isMinute (p0 : Int) : Ctr Try.prog 89 [.int .i64 (p0)] (.bool ((gasolierref03_isMinute p0))) := by
  obtain ⟨r, H⟩ : ∃ r, gasolierref03_isMinute p0 = r := ⟨_, rfl⟩
  rw [H]
  unfold gasolierref03_isMinute at H
  refine Ctr.of_body (N := 5) Try.func89 (by kernel_rfl) (c := _) rfl Try.ntmps89 rfl (fun w0 h0 hval => ?_)
  refine W.seq ?_
  refine W.region env [] [] rfl rfl rfl .nil .nil (At.keep (ts := [0]) (ids := []) rfl rfl ?_)
  refine At.thenC ?_
  refine W.seq ?_
  refine W.region env [] [⟨.bool ((gasolierref03_In p0 0 1439)), [], 0⟩] rfl rfl rfl .nil (.free (c_gasolierref03_In p0 0 1439) .nil) (At.keep (ts := [2]) (ids := []) rfl rfl ?_)
  refine At.thenC ?_
  refine W.ret ?_
  cases H
  exact At.ret env.ty rfl rfl (fun q hq => by cases hq) (.refl _) hval

theorem c_gasolierref03_asked (fuel : Nat) (p0 : Chart) (p1 : Int) (p2 : Int) {r : Int} (H : gasolierref03_asked fuel p0 p1 p2 = some r) : Ctr Try.prog 91 [.agg [.int .i64 (p0.Places), roL 7 enc_Way p0.Ways], .int .i64 (p1), .int .i64 (p2)] (.int .i64 (r)) := by
  unfold gasolierref03_asked at H
  refine Ctr.of_body (N := 19) Try.func91 (by kernel_rfl) (c := _) rfl Try.ntmps91 rfl (fun w0 h0 hval => ?_)
  refine W.seq ?_
  refine W.region env [] [] rfl rfl rfl .nil .nil (At.keep (ts := [1, 2, 3]) (ids := [3]) rfl rfl ?_)
  refine At.thenC ?_
  refine W.seq ?_
  refine W.seq ?_
  obtain ⟨y1, hy2, H⟩ := of_bindO H
  refine W.region env [] [⟨.int .i64 (y1), [], 0⟩] rfl rfl rfl .nil (.free (c_gasolierref03_Check fuel p0 hy2) .nil) (At.keep (ts := [1, 2, 3, 9]) (ids := [3]) rfl rfl ?_)
  refine At.thenC ?_
  refine W.cond rfl (fun hb3 => ?_) (fun hb3 => ?_)
  · have H := of_true H hb3
    refine W.seq ?_
    refine W.region env [] [] rfl rfl rfl .nil .nil (At.keep (ts := [6]) (ids := []) rfl rfl ?_)
    refine At.thenC ?_
    refine W.ret ?_
    refine At.rthen ?_
    cases H
    exact At.ret env.ty rfl rfl (fun q hq => by cases hq) (.refl _) hval
  · have H := of_false H hb3
    refine W.skip ?_
    refine At.thenC ?_
    refine W.seq ?_
    refine W.seq ?_
    obtain ⟨y4, hy5, H⟩ := of_bindO H
    refine W.region env [] [⟨.bool (y4), [], 0⟩, ⟨.bool ((gasolierref03_isMinute p2)), [], 0⟩] rfl rfl rfl (.cons (fun h => h) (.cons (fun h => h) (.cons (fun h => by rw [h]; rfl) .nil))) (.free (c_gasolierref03_isPlace p0 p1 hy5) (.on (fun hW => c_gasolierref03_isMinute p2) .nil)) (At.keep (ts := [18]) (ids := []) rfl rfl ?_)
    refine At.thenC ?_
    refine W.cond rfl (fun hb6 => ?_) (fun hb6 => ?_)
    · have H := of_true H hb6
      refine W.seq ?_
      refine W.region env [] [] rfl rfl rfl .nil .nil (At.keep (ts := [6]) (ids := []) rfl rfl ?_)
      refine At.thenC ?_
      refine W.ret ?_
      refine At.rthen ?_
      cases H
      exact At.ret env.ty rfl rfl (fun q hq => by cases hq) (.refl _) hval
    · have H := of_false H hb6
      refine W.skip ?_
      refine At.thenC ?_
      refine W.seq ?_
      refine W.region env [] [] rfl rfl rfl .nil .nil (At.keep (ts := [6]) (ids := []) rfl rfl ?_)
      refine At.thenC ?_
      refine W.ret ?_
      cases H
      exact At.ret env.ty rfl rfl (fun q hq => by cases hq) (.refl _) hval

theorem c_gasolierref03_isTook (fuel : Nat) (p0 : Chart) (p1 : (List Int)) {r : Bool} (H : gasolierref03_isTook fuel p0 p1 = some r) : Ctr Try.prog 93 [.agg [.int .i64 (p0.Places), roL 7 enc_Way p0.Ways], roL 1 enc_Int p1] (.bool (r)) := by
  unfold gasolierref03_isTook at H
  refine Ctr.of_body (N := 38) Try.func93 (by kernel_rfl) (c := _) rfl Try.ntmps93 rfl (fun w0 h0 hval => ?_)
  refine W.seq ?_
  refine W.region env [] [] rfl rfl rfl .nil .nil (At.keep (ts := [1, 2]) (ids := [2]) rfl rfl ?_)
  refine At.thenC ?_
  refine W.seq ?_
  refine W.seq ?_
  refine W.region env [] [] rfl rfl rfl .nil .nil (At.keep (ts := [1, 2, 11]) (ids := [2]) rfl rfl ?_)
  refine At.thenC ?_
  refine W.cond rfl (fun hb1 => ?_) (fun hb1 => ?_)
  · have H := of_true H hb1
    refine W.seq ?_
    refine W.region env [] [] rfl rfl rfl .nil .nil (At.keep (ts := [4]) (ids := []) rfl rfl ?_)
    refine At.thenC ?_
    refine W.ret ?_
    refine At.rthen ?_
    cases H
    exact At.ret env.ty rfl rfl (fun q hq => by cases hq) (.refl _) hval
  · have H := of_false H hb1
    refine W.skip ?_
    refine At.thenC ?_
    refine W.seq ?_
    refine W.seq ?_
    refine W.region env [] [] rfl rfl rfl .nil .nil (At.keep (ts := [1, 2, 5]) (ids := [2]) rfl rfl ?_)
    refine At.thenC ?_
    refine W.block ?_
    refine At.keep (ts := [1, 2, 5]) (ids := [2]) rfl rfl ?_
    refine W.loopGo H (fun (s2 : Int) => [(1, roL 1 enc_Int p1), (2, .lp 2 0), (5, .int .i64 (s2))]) (fun (s2 : Int) => [(2, .cells [.int .i64 (p0.Places), roL 7 enc_Way p0.Ways])]) (.cons (.of_eq (by first | rfl | (simp; done) | (simp; omega))) (.cons (.of_eq (by first | rfl | (simp; done) | (simp; omega))) (.cons (.of_eq (by first | rfl | (simp; done) | (simp; omega))) .nil))) (.cons (.of_eq (by first | rfl | (simp; done) | (simp; omega))) .nil) (fun k2 s2 H K0 hK2 => ?_)
    refine W.seq ?_
    refine W.seq ?_
    refine W.region env [] [] rfl rfl rfl .nil .nil (At.keep (ts := [1, 2, 5, 15]) (ids := [2]) rfl rfl ?_)
    refine At.thenC ?_
    refine W.cond rfl (fun hb3 => ?_) (fun hb3 => ?_)
    · have H := of_true H hb3
      refine W.skip ?_
      refine At.thenC ?_
      refine W.seq ?_
      refine W.block ?_
      refine W.seq ?_
      obtain ⟨hc4, H⟩ := of_must H
      obtain ⟨hc5, H⟩ := of_must H
      obtain ⟨hc6, H⟩ := of_must H
      refine W.region env [] [⟨.bool ((gasolierref03_In (p1.getD (s2).toNat default) ((p0.Ways.getD (s2).toNat default).Takes.Lo) ((p0.Ways.getD (s2).toNat default).Takes.Hi))), [], 0⟩] rfl rfl rfl (.cons hc4 (.cons hc5 (.cons hc6 .nil))) (.free (c_gasolierref03_In (p1.getD (s2).toNat default) ((p0.Ways.getD (s2).toNat default).Takes.Lo) ((p0.Ways.getD (s2).toNat default).Takes.Hi)) .nil) (At.keep (ts := [1, 2, 5, 37]) (ids := [2]) rfl rfl ?_)
      refine At.thenC ?_
      refine W.cond rfl (fun hb7 => ?_) (fun hb7 => ?_)
      · have H := of_true H hb7
        refine W.seq ?_
        refine W.region env [] [] rfl rfl rfl .nil .nil (At.keep (ts := [4]) (ids := []) rfl rfl ?_)
        refine At.thenC ?_
        refine W.ret ?_
        refine At.rinb ?_
        refine At.rthen ?_
        refine At.rthen ?_
        refine At.rinb ?_
        refine At.rthen ?_
        cases H
        exact At.ret env.ty rfl rfl (fun q hq => by cases hq) (.refl _) hval
      · have H := of_false H hb7
        refine W.skip ?_
        refine At.inb ?_
        refine At.thenC ?_
        obtain ⟨hc8, H⟩ := of_must H
        refine W.region env [] [] rfl rfl rfl (.cons hc8 .nil) .nil (At.keep (ts := [1, 2, 5]) (ids := [2]) rfl rfl ?_)
        refine At.thenK (At.keep (ts := [1, 2, 5]) (ids := [2]) rfl rfl ?_)
        exact At.conv (.cons (.of_eq (by first | rfl | (simp; done) | (simp; omega))) (.cons (.of_eq (by first | rfl | (simp; done) | (simp; omega))) (.cons (.of_eq (by first | rfl | (simp; done) | (simp; omega))) .nil))) (.cons (.of_eq (by first | rfl | (simp; done) | (simp; omega))) .nil) (hK2 (s2 + 1) H)
    · have H := of_false H hb3
      refine W.exit ?_
      refine At.xthen ?_
      refine At.xthen ?_
      refine At.xhere ?_
      refine At.thenC ?_
      refine W.seq ?_
      refine W.region env [] [] rfl rfl rfl .nil .nil (At.keep (ts := [4]) (ids := []) rfl rfl ?_)
      refine At.thenC ?_
      refine W.ret ?_
      cases H
      exact At.ret env.ty rfl rfl (fun q hq => by cases hq) (.refl _) hval

theorem c_gasolierref03_begun (p0 : Way) (p1 : Int) {r : Int} (H : gasolierref03_begun p0 p1 = some r) : Ctr Try.prog 90 [.agg [.int .i64 (p0.From), .int .i64 (p0.To), .int .i64 (p0.Takes.Lo), .int .i64 (p0.Takes.Hi), .int .i64 (p0.Open.Lo), .int .i64 (p0.Open.Hi), .int .i64 (p0.Every)], .int .i64 (p1)] (.int .i64 (r)) := by
  unfold gasolierref03_begun at H
  refine Ctr.of_body (N := 39) Try.func90 (by kernel_rfl) (c := _) rfl Try.ntmps90 rfl (fun w0 h0 hval => ?_)
  refine W.seq ?_
  refine W.region env [] [] rfl rfl rfl .nil .nil (At.keep (ts := [1, 2]) (ids := [2]) rfl rfl ?_)
  refine At.thenC ?_
  refine W.seq ?_
  refine W.region env [] [] rfl rfl rfl .nil .nil (At.keep (ts := [2, 5]) (ids := [2]) rfl rfl ?_)
  refine At.thenC ?_
  refine W.seq ?_
  refine W.seq ?_
  refine W.region env [] [] rfl rfl rfl .nil .nil (At.keep (ts := [2, 5, 13]) (ids := [2]) rfl rfl ?_)
  refine At.thenC ?_
  refine W.joinC H (fun (s1 : Int) => [(2, .lp 2 0), (5, .int .i64 (s1))]) (fun (s1 : Int) => [(2, .cells [.int .i64 (p0.From), .int .i64 (p0.To), .int .i64 (p0.Takes.Lo), .int .i64 (p0.Takes.Hi), .int .i64 (p0.Open.Lo), .int .i64 (p0.Open.Hi), .int .i64 (p0.Every)])]) (fun s1 H => ?_) (fun k1 H hK1 => ?_)
  · refine W.seq ?_
    refine W.seq ?_
    refine W.region env [] [] rfl rfl rfl .nil .nil (At.keep (ts := [5, 37]) (ids := []) rfl rfl ?_)
    refine At.thenC ?_
    refine W.cond rfl (fun hb2 => ?_) (fun hb2 => ?_)
    · have H := of_true H hb2
      refine W.seq ?_
      refine W.region env [] [] rfl rfl rfl .nil .nil (At.keep (ts := [4]) (ids := []) rfl rfl ?_)
      refine At.thenC ?_
      refine W.ret ?_
      refine At.rthen ?_
      cases H
      exact At.ret env.ty rfl rfl (fun q hq => by cases hq) (.refl _) hval
    · have H := of_false H hb2
      refine W.skip ?_
      refine At.thenC ?_
      refine W.seq ?_
      refine W.region env [] [] rfl rfl rfl .nil .nil (At.keep (ts := [4]) (ids := []) rfl rfl ?_)
      refine At.thenC ?_
      refine W.ret ?_
      cases H
      exact At.ret env.ty rfl rfl (fun q hq => by cases hq) (.refl _) hval
  · refine W.cond rfl (fun hb3 => ?_) (fun hb3 => ?_)
    · have H := of_true H hb3
      obtain ⟨hc4, H⟩ := of_must H
      obtain ⟨hc5, H⟩ := of_must H
      obtain ⟨hc6, H⟩ := of_must H
      obtain ⟨hc7, H⟩ := of_must H
      obtain ⟨hc8, H⟩ := of_must H
      obtain ⟨hc9, H⟩ := of_must H
      refine W.region env [] [] rfl rfl rfl (.cons hc4 (.cons hc5 (.cons hc6 (.cons hc7 (.cons hc8 (.cons hc9 .nil)))))) .nil (At.keep (ts := [2, 5]) (ids := [2]) rfl rfl ?_)
      refine At.thenK (At.keep (ts := [2, 5]) (ids := [2]) rfl rfl ?_)
      exact At.conv (.cons (.of_eq (by first | rfl | (simp; done) | (simp; omega))) (.cons (.of_eq (by first | rfl | (simp; done) | (simp; omega))) .nil)) (.cons (.of_eq (by first | rfl | (simp; done) | (simp; omega))) .nil) (hK1 (p0.Open.Lo + ((Int.tdiv ((((max p1 p0.Open.Lo) - p0.Open.Lo) + p0.Every) - 1) p0.Every) * p0.Every)) H)
    · have H := of_false H hb3
      refine W.skip ?_
      refine At.thenK (At.keep (ts := [2, 5]) (ids := [2]) rfl rfl ?_)
      exact At.conv (.cons (.of_eq (by first | rfl | (simp; done) | (simp; omega))) (.cons (.of_eq (by first | rfl | (simp; done) | (simp; omega))) .nil)) (.cons (.of_eq (by first | rfl | (simp; done) | (simp; omega))) .nil) (hK1 (max p1 p0.Open.Lo) H)

theorem c_gasolierref03_Ends (p0 : Way) (p1 : Int) (p2 : Int) {r : Int} (H : gasolierref03_Ends p0 p1 p2 = some r) : Ctr Try.prog 98 [.agg [.int .i64 (p0.From), .int .i64 (p0.To), .int .i64 (p0.Takes.Lo), .int .i64 (p0.Takes.Hi), .int .i64 (p0.Open.Lo), .int .i64 (p0.Open.Hi), .int .i64 (p0.Every)], .int .i64 (p1), .int .i64 (p2)] (.int .i64 (r)) := by
  unfold gasolierref03_Ends at H
  refine Ctr.of_body (N := 22) Try.func98 (by kernel_rfl) (c := _) rfl Try.ntmps98 rfl (fun w0 h0 hval => ?_)
  refine W.seq ?_
  refine W.region env [] [] rfl rfl rfl .nil .nil (At.keep (ts := [1, 2, 3]) (ids := [3]) rfl rfl ?_)
  refine At.thenC ?_
  refine W.seq ?_
  obtain ⟨y1, hy2, H⟩ := of_bindO H
  refine W.region env [] [⟨.int .i64 (y1), [], 0⟩] rfl rfl rfl .nil (.free (c_gasolierref03_begun p0 p2 hy2) .nil) (At.keep (ts := [1, 7]) (ids := []) rfl rfl ?_)
  refine At.thenC ?_
  refine W.seq ?_
  refine W.seq ?_
  obtain ⟨hc3, H⟩ := of_must H
  refine W.region env [] [] rfl rfl rfl (.cons hc3 (.cons (fun h => h) (.cons (fun h => h) (.cons (fun h => h) (.cons (fun h => by rw [h]; rfl) .nil))))) .nil (At.keep (ts := [1, 7, 18]) (ids := []) rfl rfl ?_)
  refine At.thenC ?_
  refine W.cond rfl (fun hb4 => ?_) (fun hb4 => ?_)
  · have H := of_true H hb4
    refine W.seq ?_
    refine W.region env [] [] rfl rfl rfl .nil .nil (At.keep (ts := [6]) (ids := []) rfl rfl ?_)
    refine At.thenC ?_
    refine W.ret ?_
    refine At.rthen ?_
    cases H
    exact At.ret env.ty rfl rfl (fun q hq => by cases hq) (.refl _) hval
  · have H := of_false H hb4
    refine W.skip ?_
    refine At.thenC ?_
    refine W.seq ?_
    obtain ⟨hc5, H⟩ := of_must H
    refine W.region env [] [] rfl rfl rfl (.cons hc5 .nil) .nil (At.keep (ts := [6]) (ids := []) rfl rfl ?_)
    refine At.thenC ?_
    refine W.ret ?_
    cases H
    exact At.ret env.ty rfl rfl (fun q hq => by cases hq) (.refl _) hval

theorem c_gasolierref03_reached (fuel : Nat) (p0 : Chart) (p1 : (List Int)) (p2 : Trip) {r : (List Int)} (H : gasolierref03_reached fuel p0 p1 p2 = some r) : Ctr Try.prog 92 [.agg [.int .i64 (p0.Places), roL 7 enc_Way p0.Ways], roL 1 enc_Int p1, .agg [.int .i64 (p2.From), .int .i64 (p2.To), .int .i64 (p2.At)]] (roL 1 enc_Int r) := by
  unfold gasolierref03_reached at H
  refine Ctr.of_body (N := 86) Try.func92 (by kernel_rfl) (c := _) rfl Try.ntmps92 rfl (fun w0 h0 hval => ?_)
  refine W.seq ?_
  refine W.region env [] [] rfl rfl rfl .nil .nil (At.keep (ts := [1, 3, 5]) (ids := [3, 5]) rfl rfl ?_)
  refine At.thenC ?_
  refine W.seq ?_
  obtain ⟨hc1, H⟩ := of_must H
  refine W.region env [] [] rfl rfl rfl (.cons hc1 .nil) .nil (At.keep (ts := [1, 3, 5, 7]) (ids := [3, 5, 15]) rfl rfl ?_)
  refine At.convM (.cons (.refl _) (.cons (.refl _) (.cons (y := bufL 3 1 enc_Int (List.replicate (p0.Places).toNat (0 : Int))) (BSim.seg (Seg.made (f := enc_Int) 0 rfl)) .nil))) ?_
  refine At.thenC ?_
  refine W.seq ?_
  refine W.seq ?_
  refine W.region env [] [] rfl rfl rfl .nil .nil (At.keep (ts := [1, 3, 5, 7, 8]) (ids := [3, 5, 15]) rfl rfl ?_)
  refine At.thenC ?_
  refine W.block ?_
  refine At.keep (ts := [1, 3, 5, 7, 8]) (ids := [3, 5, 15]) rfl rfl ?_
  refine W.loopGo H (fun (s2 : Int × (List Int)) => [(1, roL 1 enc_Int p1), (3, .lp 3 0), (5, .lp 5 0), (7, .buf 15 (s2.2).length), (8, .int .i64 (s2.1))]) (fun (s2 : Int × (List Int)) => [(3, .cells [.int .i64 (p0.Places), roL 7 enc_Way p0.Ways]), (5, .cells [.int .i64 (p2.From), .int .i64 (p2.To), .int .i64 (p2.At)]), (15, bufL 3 1 enc_Int s2.2)]) (.cons (.of_eq (by first | rfl | (simp; done) | (simp; omega))) (.cons (.of_eq (by first | rfl | (simp; done) | (simp; omega))) (.cons (.of_eq (by first | rfl | (simp; done) | (simp; omega))) (.cons (.of_eq (by refine bufEq ?_; first | (simp [copyAt]; done) | (simp [copyAt]; omega) | rfl)) (.cons (.of_eq (by first | rfl | (simp; done) | (simp; omega))) .nil))))) (.cons (.of_eq (by first | rfl | (simp; done) | (simp; omega))) (.cons (.of_eq (by first | rfl | (simp; done) | (simp; omega))) (.cons (.of_eq (by first | rfl | (simp; done) | (simp; omega))) .nil))) (fun k2 s2 H K0 hK2 => ?_)
  refine W.seq ?_
  refine W.seq ?_
  refine W.region env [] [] rfl rfl rfl .nil .nil (At.keep (ts := [1, 3, 5, 7, 8, 19]) (ids := [3, 5, 15]) rfl rfl ?_)
  refine At.thenC ?_
  refine W.cond rfl (fun hb3 => ?_) (fun hb3 => ?_)
  · have H := of_true H hb3
    refine W.skip ?_
    refine At.thenC ?_
    refine W.seq ?_
    refine W.block ?_
    obtain ⟨hc4, H⟩ := of_must H
    refine W.region env [] [] rfl rfl rfl (.cons (⟨by first | rfl | (simp; done) | (simp; omega), hc4⟩) (.cons (⟨by first | rfl | (simp; done) | (simp; omega), (by have := hc4; omega)⟩) .nil)) .nil (At.keep (ts := [1, 3, 5, 7, 8]) (ids := [3, 5, 15]) rfl rfl ?_)
    refine At.convM (.cons (.refl _) (.cons (.refl _) (.cons (y := bufL 3 1 enc_Int (s2.2.set (s2.1).toNat (-1))) (BSim.seg (Seg.set (Seg.refl enc_Int _) (-1) rfl)) .nil))) ?_
    refine At.inb ?_
    refine At.thenC ?_
    obtain ⟨hc5, H⟩ := of_must H
    refine W.region env [] [] rfl rfl rfl (.cons hc5 .nil) .nil (At.keep (ts := [1, 3, 5, 7, 8]) (ids := [3, 5, 15]) rfl rfl ?_)
    refine At.thenK (At.keep (ts := [1, 3, 5, 7, 8]) (ids := [3, 5, 15]) rfl rfl ?_)
    exact At.conv (.cons (.of_eq (by first | rfl | (simp; done) | (simp; omega))) (.cons (.of_eq (by first | rfl | (simp; done) | (simp; omega))) (.cons (.of_eq (by first | rfl | (simp; done) | (simp; omega))) (.cons (.of_eq (by refine bufEq ?_; first | (simp [copyAt]; done) | (simp [copyAt]; omega) | rfl)) (.cons (.of_eq (by first | rfl | (simp; done) | (simp; omega))) .nil))))) (.cons (.of_eq (by first | rfl | (simp; done) | (simp; omega))) (.cons (.of_eq (by first | rfl | (simp; done) | (simp; omega))) (.cons (.of_eq (by first | rfl | (simp; done) | (simp; omega))) .nil))) (hK2 ((s2.1 + 1), (s2.2.set (s2.1).toNat (-1))) H)
  · have H := of_false H hb3
    refine W.exit ?_
    refine At.xthen ?_
    refine At.xthen ?_
    refine At.xhere ?_
    refine At.thenC ?_
    refine W.seq ?_
    obtain ⟨hc6, H⟩ := of_must H
    refine W.region env [] [] rfl rfl rfl (.cons (⟨by first | rfl | (simp; done) | (simp; omega), hc6⟩) (.cons (⟨by first | rfl | (simp; done) | (simp; omega), (by have := hc6; omega)⟩) .nil)) .nil (At.keep (ts := [1, 3, 7]) (ids := [3, 15]) rfl rfl ?_)
    refine At.convM (.cons (.refl _) (.cons (y := bufL 3 1 enc_Int (s2.2.set (p2.From).toNat p2.At)) (BSim.seg (Seg.set (Seg.refl enc_Int _) p2.At rfl)) .nil)) ?_
    refine At.thenC ?_
    refine W.seq ?_
    refine W.region env [] [] rfl rfl rfl .nil .nil (At.keep (ts := [1, 3, 7, 9]) (ids := [3, 15]) rfl rfl ?_)
    refine At.thenC ?_
    refine W.seq ?_
    refine W.block ?_
    refine At.keep (ts := [1, 3, 7, 9]) (ids := [3, 15]) rfl rfl ?_
    refine W.loopGo H (fun (s7 : Bool × (List Int)) => [(1, roL 1 enc_Int p1), (3, .lp 3 0), (7, .buf 15 (s7.2).length), (9, .bool (s7.1))]) (fun (s7 : Bool × (List Int)) => [(3, .cells [.int .i64 (p0.Places), roL 7 enc_Way p0.Ways]), (15, bufL 3 1 enc_Int s7.2)]) (.cons (.of_eq (by first | rfl | (simp; done) | (simp; omega))) (.cons (.of_eq (by first | rfl | (simp; done) | (simp; omega))) (.cons (.of_eq (by refine bufEq ?_; first | (simp [copyAt]; done) | (simp [copyAt]; omega) | rfl)) (.cons (.of_eq (by first | rfl | (simp; done) | (simp; omega))) .nil)))) (.cons (.of_eq (by first | rfl | (simp; done) | (simp; omega))) (.cons (.of_eq (by first | rfl | (simp; done) | (simp; omega))) .nil)) (fun k7 s7 H K0 hK7 => ?_)
    refine W.seq ?_
    refine W.seq ?_
    refine W.region env [] [] rfl rfl rfl .nil .nil (At.keep (ts := [1, 3, 7, 31]) (ids := [3, 15]) rfl rfl ?_)
    refine At.thenC ?_
    refine W.cond rfl (fun hb8 => ?_) (fun hb8 => ?_)
    · have H := of_true H hb8
      refine W.skip ?_
      refine At.thenC ?_
      refine W.block ?_
      refine W.seq ?_
      refine W.region env [] [] rfl rfl rfl .nil .nil (At.keep (ts := [1, 3, 7, 9]) (ids := [3, 15]) rfl rfl ?_)
      refine At.thenC ?_
      refine W.seq ?_
      refine W.region env [] [] rfl rfl rfl .nil .nil (At.keep (ts := [1, 3, 7, 9, 10]) (ids := [3, 15]) rfl rfl ?_)
      refine At.thenC ?_
      refine W.block ?_
      refine At.keep (ts := [1, 3, 7, 9, 10]) (ids := [3, 15]) rfl rfl ?_
      refine W.loopGo H (fun (s9 : Int × Bool × (List Int)) => [(1, roL 1 enc_Int p1), (3, .lp 3 0), (7, .buf 15 (s9.2.2).length), (9, .bool (s9.2.1)), (10, .int .i64 (s9.1))]) (fun (s9 : Int × Bool × (List Int)) => [(3, .cells [.int .i64 (p0.Places), roL 7 enc_Way p0.Ways]), (15, bufL 3 1 enc_Int s9.2.2)]) (.cons (.of_eq (by first | rfl | (simp; done) | (simp; omega))) (.cons (.of_eq (by first | rfl | (simp; done) | (simp; omega))) (.cons (.of_eq (by refine bufEq ?_; first | (simp [copyAt]; done) | (simp [copyAt]; omega) | rfl)) (.cons (.of_eq (by first | rfl | (simp; done) | (simp; omega))) (.cons (.of_eq (by first | rfl | (simp; done) | (simp; omega))) .nil))))) (.cons (.of_eq (by first | rfl | (simp; done) | (simp; omega))) (.cons (.of_eq (by first | rfl | (simp; done) | (simp; omega))) .nil)) (fun k9 s9 H K0 hK9 => ?_)
      refine W.seq ?_
      refine W.seq ?_
      refine W.region env [] [] rfl rfl rfl .nil .nil (At.keep (ts := [1, 3, 7, 9, 10, 36]) (ids := [3, 15]) rfl rfl ?_)
      refine At.thenC ?_
      refine W.cond rfl (fun hb10 => ?_) (fun hb10 => ?_)
      · have H := of_true H hb10
        refine W.skip ?_
        refine At.thenC ?_
        refine W.seq ?_
        refine W.joinC H (fun (s11 : Bool × (List Int)) => [(1, roL 1 enc_Int p1), (3, .lp 3 0), (7, .buf 15 (s11.2).length), (9, .bool (s11.1)), (10, .int .i64 (s9.1))]) (fun (s11 : Bool × (List Int)) => [(3, .cells [.int .i64 (p0.Places), roL 7 enc_Way p0.Ways]), (15, bufL 3 1 enc_Int s11.2)]) (fun s11 H => ?_) (fun k11 H hK11 => ?_)
        · obtain ⟨hc12, H⟩ := of_must H
          refine W.region env [] [] rfl rfl rfl (.cons hc12 .nil) .nil (At.keep (ts := [1, 3, 7, 9, 10]) (ids := [3, 15]) rfl rfl ?_)
          refine At.thenK (At.keep (ts := [1, 3, 7, 9, 10]) (ids := [3, 15]) rfl rfl ?_)
          exact At.conv (.cons (.of_eq (by first | rfl | (simp; done) | (simp; omega))) (.cons (.of_eq (by first | rfl | (simp; done) | (simp; omega))) (.cons (.of_eq (by refine bufEq ?_; first | (simp [copyAt]; done) | (simp [copyAt]; omega) | rfl)) (.cons (.of_eq (by first | rfl | (simp; done) | (simp; omega))) (.cons (.of_eq (by first | rfl | (simp; done) | (simp; omega))) .nil))))) (.cons (.of_eq (by first | rfl | (simp; done) | (simp; omega))) (.cons (.of_eq (by first | rfl | (simp; done) | (simp; omega))) .nil)) (hK9 ((s9.1 + 1), s11.1, s11.2) H)
        · refine W.block ?_
          refine W.seq ?_
          obtain ⟨hc13, H⟩ := of_must H
          refine W.region env [] [] rfl rfl rfl (.cons hc13 .nil) .nil (At.keep (ts := [1, 3, 7, 9, 10, 11]) (ids := [3, 11, 15]) rfl rfl ?_)
          refine At.thenC ?_
          refine W.seq ?_
          refine W.seq ?_
          obtain ⟨hc14, H⟩ := of_must H
          refine W.region env [] [] rfl rfl rfl (.cons (⟨by first | rfl | (simp; done) | (simp; omega), hc14⟩) (.cons (⟨by first | rfl | (simp; done) | (simp; omega), (by have := hc14; omega)⟩) .nil)) .nil (At.keep (ts := [1, 3, 7, 9, 10, 11, 49]) (ids := [3, 11, 15]) rfl rfl ?_)
          refine At.thenC ?_
          refine W.cond rfl (fun hb15 => ?_) (fun hb15 => ?_)
          · have H := of_true H hb15
            refine W.exit ?_
            refine At.xthen ?_
            refine At.xhere ?_
            refine At.thenK (At.keep (ts := [1, 3, 7, 9, 10]) (ids := [3, 15]) rfl rfl ?_)
            exact At.conv (.cons (.of_eq (by first | rfl | (simp; done) | (simp; omega))) (.cons (.of_eq (by first | rfl | (simp; done) | (simp; omega))) (.cons (.of_eq (by refine bufEq ?_; first | (simp [copyAt]; done) | (simp [copyAt]; omega) | rfl)) (.cons (.of_eq (by first | rfl | (simp; done) | (simp; omega))) (.cons (.of_eq (by first | rfl | (simp; done) | (simp; omega))) .nil))))) (.cons (.of_eq (by first | rfl | (simp; done) | (simp; omega))) (.cons (.of_eq (by first | rfl | (simp; done) | (simp; omega))) .nil)) (hK11 (s9.2.1, s9.2.2) H)
          · have H := of_false H hb15
            refine W.skip ?_
            refine At.thenC ?_
            refine W.seq ?_
            obtain ⟨hc16, H⟩ := of_must H
            obtain ⟨hc17, H⟩ := of_must H
            obtain ⟨y18, hy19, H⟩ := of_bindO H
            refine W.region env [] [⟨.int .i64 (y18), [], 0⟩] rfl rfl rfl (.cons hc16 (.cons (⟨by first | rfl | (simp; done) | (simp; omega), hc17⟩) (.cons (⟨by first | rfl | (simp; done) | (simp; omega), (by have := hc17; omega)⟩) .nil))) (.free (c_gasolierref03_Ends (p0.Ways.getD (s9.1).toNat default) (p1.getD (s9.1).toNat default) (s9.2.2.getD ((p0.Ways.getD (s9.1).toNat default).From).toNat default) hy19) .nil) (At.keep (ts := [1, 3, 7, 9, 10, 11, 12]) (ids := [3, 11, 15]) rfl rfl ?_)
            refine At.thenC ?_
            refine W.seq ?_
            obtain ⟨hc20, H⟩ := of_must H
            obtain ⟨hc21, H⟩ := of_must H
            refine W.region env [] [] rfl rfl rfl (.cons (fun h => h) (.cons (fun hW => ⟨by first | rfl | (simp; done) | (simp; omega), hc20 hW⟩) (.cons (fun h => h) (.cons (fun h => h) (.cons (fun hW => (⟨by first | rfl | (simp; done) | (simp; omega), (by have := hc20 hW; omega)⟩)) (.cons (fun h => h) (.cons (fun h => h) (.cons (fun h => h) (.cons (fun h => h) (.cons (fun hW => ⟨by first | rfl | (simp; done) | (simp; omega), hc21 hW⟩) (.cons (fun h => h) (.cons (fun h => h) (.cons (fun hW => (⟨by first | rfl | (simp; done) | (simp; omega), (by have := hc21 hW; omega)⟩)) (.cons (fun h => h) (.cons (fun h => h) (.cons (fun h => h) (.cons (fun h => h) (.cons (fun hW h => by revert hW h; first | (simp +contextual; done) | grind) (.cons (fun h => h) .nil))))))))))))))))))) .nil (At.keep (ts := [1, 3, 7, 9, 10, 11, 12, 79]) (ids := [3, 11, 15]) rfl rfl ?_)
            refine At.thenC ?_
            refine W.cond rfl (fun hb22 => ?_) (fun hb22 => ?_)
            · have H := of_true H hb22
              refine W.seq ?_
              obtain ⟨hc23, H⟩ := of_must H
              refine W.region env [] [] rfl rfl rfl (.cons (⟨by first | rfl | (simp; done) | (simp; omega), hc23⟩) (.cons (⟨by first | rfl | (simp; done) | (simp; omega), (by have := hc23; omega)⟩) .nil)) .nil (At.keep (ts := [1, 3, 7, 10]) (ids := [3, 15]) rfl rfl ?_)
              refine At.convM (.cons (.refl _) (.cons (y := bufL 3 1 enc_Int (s9.2.2.set ((p0.Ways.getD (s9.1).toNat default).To).toNat y18)) (BSim.seg (Seg.set (Seg.refl enc_Int _) y18 rfl)) .nil)) ?_
              refine At.thenC ?_
              refine W.region env [] [] rfl rfl rfl .nil .nil (At.keep (ts := [1, 3, 7, 9, 10]) (ids := [3, 15]) rfl rfl ?_)
              refine At.inb ?_
              refine At.thenK (At.keep (ts := [1, 3, 7, 9, 10]) (ids := [3, 15]) rfl rfl ?_)
              exact At.conv (.cons (.of_eq (by first | rfl | (simp; done) | (simp; omega))) (.cons (.of_eq (by first | rfl | (simp; done) | (simp; omega))) (.cons (.of_eq (by refine bufEq ?_; first | (simp [copyAt]; done) | (simp [copyAt]; omega) | rfl)) (.cons (.of_eq (by first | rfl | (simp; done) | (simp; omega))) (.cons (.of_eq (by first | rfl | (simp; done) | (simp; omega))) .nil))))) (.cons (.of_eq (by first | rfl | (simp; done) | (simp; omega))) (.cons (.of_eq (by first | rfl | (simp; done) | (simp; omega))) .nil)) (hK11 (true, (s9.2.2.set ((p0.Ways.getD (s9.1).toNat default).To).toNat y18)) H)
            · have H := of_false H hb22
              refine W.skip ?_
              refine At.inb ?_
              refine At.thenK (At.keep (ts := [1, 3, 7, 9, 10]) (ids := [3, 15]) rfl rfl ?_)
              exact At.conv (.cons (.of_eq (by first | rfl | (simp; done) | (simp; omega))) (.cons (.of_eq (by first | rfl | (simp; done) | (simp; omega))) (.cons (.of_eq (by refine bufEq ?_; first | (simp [copyAt]; done) | (simp [copyAt]; omega) | rfl)) (.cons (.of_eq (by first | rfl | (simp; done) | (simp; omega))) (.cons (.of_eq (by first | rfl | (simp; done) | (simp; omega))) .nil))))) (.cons (.of_eq (by first | rfl | (simp; done) | (simp; omega))) (.cons (.of_eq (by first | rfl | (simp; done) | (simp; omega))) .nil)) (hK11 (s9.2.1, s9.2.2) H)
      · have H := of_false H hb10
        refine W.exit ?_
        refine At.xthen ?_
        refine At.xthen ?_
        refine At.xhere ?_
        refine At.inb ?_
        refine At.thenK (At.keep (ts := [1, 3, 7, 9]) (ids := [3, 15]) rfl rfl ?_)
        exact At.conv (.cons (.of_eq (by first | rfl | (simp; done) | (simp; omega))) (.cons (.of_eq (by first | rfl | (simp; done) | (simp; omega))) (.cons (.of_eq (by refine bufEq ?_; first | (simp [copyAt]; done) | (simp [copyAt]; omega) | rfl)) (.cons (.of_eq (by first | rfl | (simp; done) | (simp; omega))) .nil)))) (.cons (.of_eq (by first | rfl | (simp; done) | (simp; omega))) (.cons (.of_eq (by first | rfl | (simp; done) | (simp; omega))) .nil)) (hK7 (s9.2.1, s9.2.2) H)
    · have H := of_false H hb8
      refine W.exit ?_
      refine At.xthen ?_
      refine At.xthen ?_
      refine At.xhere ?_
      refine At.thenC ?_
      refine W.seq ?_
      refine W.region env [] [] rfl rfl rfl .nil .nil (At.keep (ts := [6]) (ids := [15]) rfl rfl ?_)
      refine At.thenC ?_
      refine W.ret ?_
      cases H
      exact At.ret env.ty rfl rfl (fun q hq => by cases hq; exact (by first | rfl | (simp; done) | (simp; omega))) (.refl _) hval

theorem c_gasolierref03_Walked (fuel : Nat) (p0 : Chart) (p1 : (List Int)) (p2 : Trip) {r : ((List Int) × Int)} (H : gasolierref03_Walked fuel p0 p1 p2 = some r) : Ctr Try.prog 40 [.agg [.int .i64 (p0.Places), roL 7 enc_Way p0.Ways], roL 1 enc_Int p1, .agg [.int .i64 (p2.From), .int .i64 (p2.To), .int .i64 (p2.At)]] (.tup [roL 1 enc_Int r.1, .int .i64 (r.2)]) := by
  unfold gasolierref03_Walked at H
  refine Ctr.of_body (N := 26) Try.func40 (by kernel_rfl) (c := _) rfl Try.ntmps40 rfl (fun w0 h0 hval => ?_)
  refine W.seq ?_
  refine W.region env [] [] rfl rfl rfl .nil .nil (At.keep (ts := [1, 3, 5]) (ids := [3, 5]) rfl rfl ?_)
  refine At.thenC ?_
  refine W.seq ?_
  obtain ⟨y1, hy2, H⟩ := of_bindO H
  refine W.region env [] [⟨.int .i64 (y1), [], 0⟩] rfl rfl rfl .nil (.free (c_gasolierref03_asked fuel p0 p2.From p2.At hy2) .nil) (At.keep (ts := [1, 3, 5, 8]) (ids := [3, 5]) rfl rfl ?_)
  refine At.thenC ?_
  refine W.seq ?_
  refine W.seq ?_
  refine W.region env [] [] rfl rfl rfl .nil .nil (At.keep (ts := [1, 3, 5, 8, 16]) (ids := [3, 5]) rfl rfl ?_)
  refine At.thenC ?_
  refine W.cond rfl (fun hb3 => ?_) (fun hb3 => ?_)
  · have H := of_true H hb3
    refine W.seq ?_
    refine W.region env [] [] rfl rfl rfl .nil .nil (At.keep (ts := [6, 7]) (ids := []) rfl rfl ?_)
    refine At.thenC ?_
    refine W.ret ?_
    refine At.rthen ?_
    cases H
    exact At.ret env.ty rfl rfl (fun q hq => by cases hq) (Sim.tupL (.cons (Sim.nil _ _) (.cons (.refl _) .nil))) hval
  · have H := of_false H hb3
    refine W.skip ?_
    refine At.thenC ?_
    refine W.seq ?_
    refine W.seq ?_
    obtain ⟨y4, hy5, H⟩ := of_bindO H
    refine W.region env [] [⟨.bool (y4), [], 0⟩] rfl rfl rfl .nil (.free (c_gasolierref03_isTook fuel p0 p1 hy5) .nil) (At.keep (ts := [1, 3, 5, 21]) (ids := [3, 5]) rfl rfl ?_)
    refine At.thenC ?_
    refine W.cond rfl (fun hb6 => ?_) (fun hb6 => ?_)
    · have H := of_true H hb6
      refine W.seq ?_
      refine W.region env [] [] rfl rfl rfl .nil .nil (At.keep (ts := [6, 7]) (ids := []) rfl rfl ?_)
      refine At.thenC ?_
      refine W.ret ?_
      refine At.rthen ?_
      cases H
      exact At.ret env.ty rfl rfl (fun q hq => by cases hq) (Sim.tupL (.cons (Sim.nil _ _) (.cons (.refl _) .nil))) hval
    · have H := of_false H hb6
      refine W.skip ?_
      refine At.thenC ?_
      refine W.seq ?_
      obtain ⟨y7, hy8, H⟩ := of_bindO H
      refine W.region env [] [⟨roL 1 enc_Int y7, [], 0⟩] rfl rfl rfl .nil (.free (c_gasolierref03_reached fuel p0 p1 p2 hy8) .nil) (At.keep (ts := [6, 7]) (ids := []) rfl rfl ?_)
      refine At.thenC ?_
      refine W.ret ?_
      cases H
      exact At.ret env.ty rfl rfl (fun q hq => by cases hq) (.refl _) hval

theorem c_round_CheckTook (p0 : Chart) (p1 : (List Int)) {r : Int} (H : round_CheckTook p0 p1 = some r) : Ctr Try.prog 43 [.agg [.int .i64 (p0.Places), roL 7 enc_Way p0.Ways], roL 1 enc_Int p1] (.int .i64 (r)) := by
  unfold round_CheckTook at H
  refine Ctr.of_body (N := 15) Try.func43 (by kernel_rfl) (c := _) rfl Try.ntmps43 rfl (fun w0 h0 hval => ?_)
  refine W.seq ?_
  refine W.region env [] [] rfl rfl rfl .nil .nil (At.keep (ts := [1, 2]) (ids := [2]) rfl rfl ?_)
  refine At.thenC ?_
  refine W.seq ?_
  refine W.seq ?_
  obtain ⟨y1, hy2, H⟩ := of_bindO H
  refine W.region env [] [⟨.int .i64 (y1), [], 0⟩] rfl rfl rfl .nil (.free (c_round_Check p0 hy2) .nil) (At.keep (ts := [1, 2, 5]) (ids := [2]) rfl rfl ?_)
  refine At.thenC ?_
  refine W.seq ?_
  refine W.region env [] [] rfl rfl rfl .nil .nil (At.keep (ts := [1, 2, 5, 9]) (ids := [2]) rfl rfl ?_)
  refine At.thenC ?_
  refine W.cond rfl (fun hb3 => ?_) (fun hb3 => ?_)
  · have H := of_true H hb3
    refine W.seq ?_
    refine W.region env [] [] rfl rfl rfl .nil .nil (At.keep (ts := [4]) (ids := []) rfl rfl ?_)
    refine At.thenC ?_
    refine W.ret ?_
    refine At.rthen ?_
    cases H
    exact At.ret env.ty rfl rfl (fun q hq => by cases hq) (.refl _) hval
  · have H := of_false H hb3
    refine W.skip ?_
    refine At.thenC ?_
    refine W.seq ?_
    refine W.seq ?_
    obtain ⟨y4, hy5, H⟩ := of_bindO H
    refine W.region env [] [⟨.bool (y4), [], 0⟩] rfl rfl rfl .nil (.free (c_round_areTook p0 p1 hy5) .nil) (At.keep (ts := [14]) (ids := []) rfl rfl ?_)
    refine At.thenC ?_
    refine W.cond rfl (fun hb6 => ?_) (fun hb6 => ?_)
    · have H := of_true H hb6
      refine W.seq ?_
      refine W.region env [] [] rfl rfl rfl .nil .nil (At.keep (ts := [4]) (ids := []) rfl rfl ?_)
      refine At.thenC ?_
      refine W.ret ?_
      refine At.rthen ?_
      cases H
      exact At.ret env.ty rfl rfl (fun q hq => by cases hq) (.refl _) hval
    · have H := of_false H hb6
      refine W.skip ?_
      refine At.thenC ?_
      refine W.seq ?_
      refine W.region env [] [] rfl rfl rfl .nil .nil (At.keep (ts := [4]) (ids := []) rfl rfl ?_)
      refine At.thenC ?_
      refine W.ret ?_
      cases H
      exact At.ret env.ty rfl rfl (fun q hq => by cases hq) (.refl _) hval

theorem c_round_Went (fuel : Nat) (p0 : Chart) (p1 : (List Int)) (p2 : Round) {r : ((List Int) × Int)} (H : round_Went fuel p0 p1 p2 = some r) : Ctr Try.prog 41 [.agg [.int .i64 (p0.Places), roL 7 enc_Way p0.Ways], roL 1 enc_Int p1, .agg [.int .i64 (p2.Place), .int .i64 (p2.At), roL 4 enc_Stop p2.Stops]] (.tup [roL 1 enc_Int r.1, .int .i64 (r.2)]) := by
  unfold round_Went at H
  refine Ctr.of_body (N := 24) Try.func41 (by kernel_rfl) (c := _) rfl Try.ntmps41 rfl (fun w0 h0 hval => ?_)
  refine W.seq ?_
  refine W.region env [] [] rfl rfl rfl .nil .nil (At.keep (ts := [1, 3, 5]) (ids := [3, 5]) rfl rfl ?_)
  refine At.thenC ?_
  refine W.seq ?_
  refine W.seq ?_
  obtain ⟨y1, hy2, H⟩ := of_bindO H
  refine W.region env [] [⟨.int .i64 (y1), [], 0⟩] rfl rfl rfl .nil (.free (c_round_CheckTook p0 p1 hy2) .nil) (At.keep (ts := [1, 3, 5, 8]) (ids := [3, 5]) rfl rfl ?_)
  refine At.thenC ?_
  refine W.seq ?_
  refine W.region env [] [] rfl rfl rfl .nil .nil (At.keep (ts := [1, 3, 5, 8, 13]) (ids := [3, 5]) rfl rfl ?_)
  refine At.thenC ?_
  refine W.cond rfl (fun hb3 => ?_) (fun hb3 => ?_)
  · have H := of_true H hb3
    refine W.seq ?_
    refine W.region env [] [] rfl rfl rfl .nil .nil (At.keep (ts := [6, 7]) (ids := []) rfl rfl ?_)
    refine At.thenC ?_
    refine W.ret ?_
    refine At.rthen ?_
    cases H
    exact At.ret env.ty rfl rfl (fun q hq => by cases hq) (Sim.tupL (.cons (Sim.nil _ _) (.cons (.refl _) .nil))) hval
  · have H := of_false H hb3
    refine W.skip ?_
    refine At.thenC ?_
    refine W.seq ?_
    refine W.seq ?_
    obtain ⟨y4, hy5, H⟩ := of_bindO H
    refine W.region env [] [⟨.bool (y4), [], 0⟩] rfl rfl rfl .nil (.free (c_round_isRound p0 p2 hy5) .nil) (At.keep (ts := [1, 3, 5, 18]) (ids := [3, 5]) rfl rfl ?_)
    refine At.thenC ?_
    refine W.cond rfl (fun hb6 => ?_) (fun hb6 => ?_)
    · have H := of_true H hb6
      refine W.seq ?_
      refine W.region env [] [] rfl rfl rfl .nil .nil (At.keep (ts := [6, 7]) (ids := []) rfl rfl ?_)
      refine At.thenC ?_
      refine W.ret ?_
      refine At.rthen ?_
      cases H
      exact At.ret env.ty rfl rfl (fun q hq => by cases hq) (Sim.tupL (.cons (Sim.nil _ _) (.cons (.refl _) .nil))) hval
    · have H := of_false H hb6
      refine W.skip ?_
      refine At.thenC ?_
      refine W.seq ?_
      obtain ⟨y7, hy8, H⟩ := of_bindO H
      refine W.region env [] [⟨.clo (.func 117) [] [.rp [roL 1 enc_Int p1]], [], 0⟩, ⟨roL 1 enc_Int y7, [], 0⟩] rfl rfl rfl .nil (.free (c_round_truly p1) (.free (c_round_begins fuel p0 p2 (fun x0 => round_truly_1 x0 p1) 117 [] ([.rp [roL 1 enc_Int p1]]) (fun x0 r h => c_round_truly_1 x0 p1 h) hy8) .nil)) (At.keep (ts := [6, 7]) (ids := []) rfl rfl ?_)
      refine At.thenC ?_
      refine W.ret ?_
      cases H
      exact At.ret env.ty rfl rfl (fun q hq => by cases hq) (.refl _) hval

theorem c_gasolierref03_CheckStop (p0 : Stop) : Ctr Try.prog 63 [.agg [.int .i64 (p0.Place), .int .i64 (p0.Window.Lo), .int .i64 (p0.Window.Hi), .int .i64 (p0.Serve)]] (.int .i64 ((gasolierref03_CheckStop p0))) := by
  obtain ⟨r, H⟩ : ∃ r, gasolierref03_CheckStop p0 = r := ⟨_, rfl⟩
  rw [H]
  unfold gasolierref03_CheckStop at H
  refine Ctr.of_body (N := 29) Try.func63 (by kernel_rfl) (c := _) rfl Try.ntmps63 rfl (fun w0 h0 hval => ?_)
  refine W.seq ?_
  refine W.region env [] [] rfl rfl rfl .nil .nil (At.keep (ts := [1]) (ids := [1]) rfl rfl ?_)
  refine At.thenC ?_
  refine W.seq ?_
  refine W.seq ?_
  refine W.region env [] [⟨.bool ((gasolierref03_In p0.Place 0 11)), [], 0⟩, ⟨.bool ((gasolierref03_In p0.Window.Lo 0 p0.Window.Hi)), [], 0⟩, ⟨.bool ((gasolierref03_In p0.Serve 0 120)), [], 0⟩] rfl rfl rfl (.cons (fun h => h) (.cons (fun h => h) (.cons (fun h => h) (.cons (fun h => h) (.cons (fun h => h) (.cons (fun h => h) (.cons (fun h => h) (.cons (fun h => by rw [h]; rfl) (.cons (fun h => h) (.cons (fun h => h) (.cons (fun h => h) (.cons (fun h => by rw [h]; rfl) (.cons (fun h => h) (.cons (fun h => h) (.cons (fun h => h) (.cons (fun h => by rw [h]; rfl) .nil)))))))))))))))) (.free (c_gasolierref03_In p0.Place 0 11) (.on (fun hW => c_gasolierref03_In p0.Window.Lo 0 p0.Window.Hi) (.on (fun hW => c_gasolierref03_In p0.Serve 0 120) .nil))) (At.keep (ts := [28]) (ids := []) rfl rfl ?_)
  refine At.thenC ?_
  refine W.cond rfl (fun hb1 => ?_) (fun hb1 => ?_)
  · have H := of_true H hb1
    refine W.seq ?_
    refine W.region env [] [] rfl rfl rfl .nil .nil (At.keep (ts := [2]) (ids := []) rfl rfl ?_)
    refine At.thenC ?_
    refine W.ret ?_
    refine At.rthen ?_
    cases H
    exact At.ret env.ty rfl rfl (fun q hq => by cases hq) (.refl _) hval
  · have H := of_false H hb1
    refine W.skip ?_
    refine At.thenC ?_
    refine W.seq ?_
    refine W.region env [] [] rfl rfl rfl .nil .nil (At.keep (ts := [2]) (ids := []) rfl rfl ?_)
    refine At.thenC ?_
    refine W.ret ?_
    cases H
    exact At.ret env.ty rfl rfl (fun q hq => by cases hq) (.refl _) hval

theorem c_gasolierref03_isRound (fuel : Nat) (p0 : Chart) (p1 : Round) {r : Bool} (H : gasolierref03_isRound fuel p0 p1 = some r) : Ctr Try.prog 73 [.agg [.int .i64 (p0.Places), roL 7 enc_Way p0.Ways], .agg [.int .i64 (p1.Place), .int .i64 (p1.At), roL 4 enc_Stop p1.Stops]] (.bool (r)) := by
  unfold gasolierref03_isRound at H
  refine Ctr.of_body (N := 48) Try.func73 (by kernel_rfl) (c := _) rfl Try.ntmps73 rfl (fun w0 h0 hval => ?_)
  refine W.seq ?_
  refine W.region env [] [] rfl rfl rfl .nil .nil (At.keep (ts := [2, 3]) (ids := [2, 3]) rfl rfl ?_)
  refine At.thenC ?_
  refine W.seq ?_
  refine W.seq ?_
  obtain ⟨y1, hy2, H⟩ := of_bindO H
  refine W.region env [] [⟨.bool (y1), [], 0⟩, ⟨.bool ((gasolierref03_isMinute p1.At)), [], 0⟩] rfl rfl rfl (.cons (fun h => h) (.cons (fun h => h) (.cons (fun h => h) (.cons (fun h => by rw [h]; rfl) (.cons (fun h => h) (.cons (fun h => h) (.cons (fun h => h) (.cons (fun h => by rw [h]; rfl) .nil)))))))) (.free (c_gasolierref03_isPlace p0 p1.Place hy2) (.on (fun hW => c_gasolierref03_isMinute p1.At) .nil)) (At.keep (ts := [2, 3, 22]) (ids := [2, 3]) rfl rfl ?_)
  refine At.thenC ?_
  refine W.cond rfl (fun hb3 => ?_) (fun hb3 => ?_)
  · have H := of_true H hb3
    refine W.seq ?_
    refine W.region env [] [] rfl rfl rfl .nil .nil (At.keep (ts := [4]) (ids := []) rfl rfl ?_)
    refine At.thenC ?_
    refine W.ret ?_
    refine At.rthen ?_
    cases H
    exact At.ret env.ty rfl rfl (fun q hq => by cases hq) (.refl _) hval
  · have H := of_false H hb3
    refine W.skip ?_
    refine At.thenC ?_
    refine W.seq ?_
    refine W.seq ?_
    refine W.region env [] [] rfl rfl rfl .nil .nil (At.keep (ts := [2, 3, 5]) (ids := [2, 3]) rfl rfl ?_)
    refine At.thenC ?_
    refine W.block ?_
    refine At.keep (ts := [2, 3, 5]) (ids := [2, 3]) rfl rfl ?_
    refine W.loopGo H (fun (s4 : Int) => [(2, .lp 2 0), (3, .lp 3 0), (5, .int .i64 (s4))]) (fun (s4 : Int) => [(2, .cells [.int .i64 (p0.Places), roL 7 enc_Way p0.Ways]), (3, .cells [.int .i64 (p1.Place), .int .i64 (p1.At), roL 4 enc_Stop p1.Stops])]) (.cons (.of_eq (by first | rfl | (simp; done) | (simp; omega))) (.cons (.of_eq (by first | rfl | (simp; done) | (simp; omega))) (.cons (.of_eq (by first | rfl | (simp; done) | (simp; omega))) .nil))) (.cons (.of_eq (by first | rfl | (simp; done) | (simp; omega))) (.cons (.of_eq (by first | rfl | (simp; done) | (simp; omega))) .nil)) (fun k4 s4 H K0 hK4 => ?_)
    refine W.seq ?_
    refine W.seq ?_
    refine W.region env [] [] rfl rfl rfl .nil .nil (At.keep (ts := [2, 3, 5, 27]) (ids := [2, 3]) rfl rfl ?_)
    refine At.thenC ?_
    refine W.cond rfl (fun hb5 => ?_) (fun hb5 => ?_)
    · have H := of_true H hb5
      refine W.skip ?_
      refine At.thenC ?_
      refine W.seq ?_
      refine W.block ?_
      refine W.seq ?_
      obtain ⟨hc6, H⟩ := of_must H
      obtain ⟨hc7, H⟩ := of_must H
      obtain ⟨y8, hy9, H⟩ := of_bindO H
      refine W.region env [] [⟨.int .i64 ((gasolierref03_CheckStop (p1.Stops.getD (s4).toNat default))), [], 0⟩, ⟨.bool (y8), [], 0⟩] rfl rfl rfl (.cons hc6 (.cons (fun h => h) (.cons hc7 (.cons (fun h => h) (.cons (fun h => h) (.cons (fun h => h) (.cons (fun h => h) (.cons (fun h => h) (.cons (fun h => h) (.cons (fun h => h) (.cons (fun h => by rw [h]; rfl) .nil))))))))))) (.free (c_gasolierref03_CheckStop (p1.Stops.getD (s4).toNat default)) (.on (fun hW => c_gasolierref03_isPlace p0 ((p1.Stops.getD (s4).toNat default).Place) (of_true hy9 hW)) .nil)) (At.keep (ts := [2, 3, 5, 47]) (ids := [2, 3]) rfl rfl ?_)
      refine At.thenC ?_
      refine W.cond rfl (fun hb10 => ?_) (fun hb10 => ?_)
      · have H := of_true H hb10
        refine W.seq ?_
        refine W.region env [] [] rfl rfl rfl .nil .nil (At.keep (ts := [4]) (ids := []) rfl rfl ?_)
        refine At.thenC ?_
        refine W.ret ?_
        refine At.rinb ?_
        refine At.rthen ?_
        refine At.rthen ?_
        refine At.rinb ?_
        refine At.rthen ?_
        cases H
        exact At.ret env.ty rfl rfl (fun q hq => by cases hq) (.refl _) hval
      · have H := of_false H hb10
        refine W.skip ?_
        refine At.inb ?_
        refine At.thenC ?_
        obtain ⟨hc11, H⟩ := of_must H
        refine W.region env [] [] rfl rfl rfl (.cons hc11 .nil) .nil (At.keep (ts := [2, 3, 5]) (ids := [2, 3]) rfl rfl ?_)
        refine At.thenK (At.keep (ts := [2, 3, 5]) (ids := [2, 3]) rfl rfl ?_)
        exact At.conv (.cons (.of_eq (by first | rfl | (simp; done) | (simp; omega))) (.cons (.of_eq (by first | rfl | (simp; done) | (simp; omega))) (.cons (.of_eq (by first | rfl | (simp; done) | (simp; omega))) .nil))) (.cons (.of_eq (by first | rfl | (simp; done) | (simp; omega))) (.cons (.of_eq (by first | rfl | (simp; done) | (simp; omega))) .nil)) (hK4 (s4 + 1) H)
    · have H := of_false H hb5
      refine W.exit ?_
      refine At.xthen ?_
      refine At.xthen ?_
      refine At.xhere ?_
      refine At.thenC ?_
      refine W.seq ?_
      refine W.region env [] [] rfl rfl rfl .nil .nil (At.keep (ts := [4]) (ids := []) rfl rfl ?_)
      refine At.thenC ?_
      refine W.ret ?_
      cases H
      exact At.ret env.ty rfl rfl (fun q hq => by cases hq) (.refl _) hval

theorem c_gasolierref03_begins (fuel : Nat) (p0 : Chart) (p1 : (List Int)) (p2 : Round) {r : (List Int)} (H : gasolierref03_begins fuel p0 p1 p2 = some r) : Ctr Try.prog 84 [.agg [.int .i64 (p0.Places), roL 7 enc_Way p0.Ways], roL 1 enc_Int p1, .agg [.int .i64 (p2.Place), .int .i64 (p2.At), roL 4 enc_Stop p2.Stops]] (roL 1 enc_Int r) := by
  unfold gasolierref03_begins at H
  refine Ctr.of_body (N := 88) Try.func84 (by kernel_rfl) (c := _) rfl Try.ntmps84 rfl (fun w0 h0 hval => ?_)
  refine W.seq ?_
  refine W.region env [] [] rfl rfl rfl .nil .nil (At.keep (ts := [1, 3, 5]) (ids := [3, 5]) rfl rfl ?_)
  refine At.thenC ?_
  refine W.seq ?_
  obtain ⟨hc1, H⟩ := of_must H
  refine W.region env [] [] rfl rfl rfl (.cons hc1 .nil) .nil (At.keep (ts := [1, 3, 5, 7]) (ids := [3, 5, 17]) rfl rfl ?_)
  refine At.convM (.cons (.refl _) (.cons (.refl _) (.cons (y := bufL 3 1 enc_Int (List.replicate (((p2.Stops.length : Nat) : Int)).toNat (0 : Int))) (BSim.seg (Seg.made (f := enc_Int) 0 rfl)) .nil))) ?_
  refine At.thenC ?_
  refine W.seq ?_
  refine W.seq ?_
  refine W.region env [] [] rfl rfl rfl .nil .nil (At.keep (ts := [1, 3, 5, 7, 8]) (ids := [3, 5, 17]) rfl rfl ?_)
  refine At.thenC ?_
  refine W.block ?_
  refine At.keep (ts := [1, 3, 5, 7, 8]) (ids := [3, 5, 17]) rfl rfl ?_
  refine W.loopGo H (fun (s2 : Int × (List Int)) => [(1, roL 1 enc_Int p1), (3, .lp 3 0), (5, .lp 5 0), (7, .buf 17 (s2.2).length), (8, .int .i64 (s2.1))]) (fun (s2 : Int × (List Int)) => [(3, .cells [.int .i64 (p0.Places), roL 7 enc_Way p0.Ways]), (5, .cells [.int .i64 (p2.Place), .int .i64 (p2.At), roL 4 enc_Stop p2.Stops]), (17, bufL 3 1 enc_Int s2.2)]) (.cons (.of_eq (by first | rfl | (simp; done) | (simp; omega))) (.cons (.of_eq (by first | rfl | (simp; done) | (simp; omega))) (.cons (.of_eq (by first | rfl | (simp; done) | (simp; omega))) (.cons (.of_eq (by refine bufEq ?_; first | (simp [copyAt]; done) | (simp [copyAt]; omega) | rfl)) (.cons (.of_eq (by first | rfl | (simp; done) | (simp; omega))) .nil))))) (.cons (.of_eq (by first | rfl | (simp; done) | (simp; omega))) (.cons (.of_eq (by first | rfl | (simp; done) | (simp; omega))) (.cons (.of_eq (by first | rfl | (simp; done) | (simp; omega))) .nil))) (fun k2 s2 H K0 hK2 => ?_)
  refine W.seq ?_
  refine W.seq ?_
  refine W.region env [] [] rfl rfl rfl (.cons (by first | rfl | (simp; done) | (simp; omega)) .nil) .nil (At.keep (ts := [1, 3, 5, 7, 8, 21]) (ids := [3, 5, 17]) rfl rfl ?_)
  refine At.thenC ?_
  refine W.cond rfl (fun hb3 => ?_) (fun hb3 => ?_)
  · have H := of_true H hb3
    refine W.skip ?_
    refine At.thenC ?_
    refine W.seq ?_
    refine W.block ?_
    obtain ⟨hc4, H⟩ := of_must H
    refine W.region env [] [] rfl rfl rfl (.cons (⟨by first | rfl | (simp; done) | (simp; omega), hc4⟩) (.cons (⟨by first | rfl | (simp; done) | (simp; omega), (by have := hc4; omega)⟩) .nil)) .nil (At.keep (ts := [1, 3, 5, 7, 8]) (ids := [3, 5, 17]) rfl rfl ?_)
    refine At.convM (.cons (.refl _) (.cons (.refl _) (.cons (y := bufL 3 1 enc_Int (s2.2.set (s2.1).toNat (-1))) (BSim.seg (Seg.set (Seg.refl enc_Int _) (-1) rfl)) .nil))) ?_
    refine At.inb ?_
    refine At.thenC ?_
    obtain ⟨hc5, H⟩ := of_must H
    refine W.region env [] [] rfl rfl rfl (.cons hc5 .nil) .nil (At.keep (ts := [1, 3, 5, 7, 8]) (ids := [3, 5, 17]) rfl rfl ?_)
    refine At.thenK (At.keep (ts := [1, 3, 5, 7, 8]) (ids := [3, 5, 17]) rfl rfl ?_)
    exact At.conv (.cons (.of_eq (by first | rfl | (simp; done) | (simp; omega))) (.cons (.of_eq (by first | rfl | (simp; done) | (simp; omega))) (.cons (.of_eq (by first | rfl | (simp; done) | (simp; omega))) (.cons (.of_eq (by refine bufEq ?_; first | (simp [copyAt]; done) | (simp [copyAt]; omega) | rfl)) (.cons (.of_eq (by first | rfl | (simp; done) | (simp; omega))) .nil))))) (.cons (.of_eq (by first | rfl | (simp; done) | (simp; omega))) (.cons (.of_eq (by first | rfl | (simp; done) | (simp; omega))) (.cons (.of_eq (by first | rfl | (simp; done) | (simp; omega))) .nil))) (hK2 ((s2.1 + 1), (s2.2.set (s2.1).toNat (-1))) H)
  · have H := of_false H hb3
    refine W.exit ?_
    refine At.xthen ?_
    refine At.xthen ?_
    refine At.xhere ?_
    refine At.thenC ?_
    refine W.seq ?_
    refine W.region env [] [] rfl rfl rfl .nil .nil (At.keep (ts := [1, 3, 5, 7, 9]) (ids := [3, 5, 17]) rfl rfl ?_)
    refine At.thenC ?_
    refine W.seq ?_
    refine W.region env [] [] rfl rfl rfl .nil .nil (At.keep (ts := [1, 3, 5, 7, 9, 10]) (ids := [3, 5, 17]) rfl rfl ?_)
    refine At.thenC ?_
    refine W.seq ?_
    refine W.seq ?_
    refine W.region env [] [] rfl rfl rfl .nil .nil (At.keep (ts := [1, 3, 5, 7, 9, 10, 11]) (ids := [3, 5, 17]) rfl rfl ?_)
    refine At.thenC ?_
    refine W.block ?_
    refine At.keep (ts := [1, 3, 5, 7, 9, 10, 11]) (ids := [3, 5, 17]) rfl rfl ?_
    refine W.loopGo H (fun (s6 : Int × Int × Int × (List Int)) => [(1, roL 1 enc_Int p1), (3, .lp 3 0), (5, .lp 5 0), (7, .buf 17 (s6.2.2.2).length), (9, .int .i64 (s6.2.2.1)), (10, .int .i64 (s6.1)), (11, .int .i64 (s6.2.1))]) (fun (s6 : Int × Int × Int × (List Int)) => [(3, .cells [.int .i64 (p0.Places), roL 7 enc_Way p0.Ways]), (5, .cells [.int .i64 (p2.Place), .int .i64 (p2.At), roL 4 enc_Stop p2.Stops]), (17, bufL 3 1 enc_Int s6.2.2.2)]) (.cons (.of_eq (by first | rfl | (simp; done) | (simp; omega))) (.cons (.of_eq (by first | rfl | (simp; done) | (simp; omega))) (.cons (.of_eq (by first | rfl | (simp; done) | (simp; omega))) (.cons (.of_eq (by refine bufEq ?_; first | (simp [copyAt]; done) | (simp [copyAt]; omega) | rfl)) (.cons (.of_eq (by first | rfl | (simp; done) | (simp; omega))) (.cons (.of_eq (by first | rfl | (simp; done) | (simp; omega))) (.cons (.of_eq (by first | rfl | (simp; done) | (simp; omega))) .nil))))))) (.cons (.of_eq (by first | rfl | (simp; done) | (simp; omega))) (.cons (.of_eq (by first | rfl | (simp; done) | (simp; omega))) (.cons (.of_eq (by first | rfl | (simp; done) | (simp; omega))) .nil))) (fun k6 s6 H K0 hK6 => ?_)
    refine W.seq ?_
    refine W.seq ?_
    refine W.region env [] [] rfl rfl rfl .nil .nil (At.keep (ts := [1, 3, 5, 7, 9, 10, 11, 35]) (ids := [3, 5, 17]) rfl rfl ?_)
    refine At.thenC ?_
    refine W.cond rfl (fun hb7 => ?_) (fun hb7 => ?_)
    · have H := of_true H hb7
      refine W.skip ?_
      refine At.thenC ?_
      refine W.seq ?_
      refine W.block ?_
      refine W.seq ?_
      obtain ⟨hc8, H⟩ := of_must H
      refine W.region env [] [] rfl rfl rfl (.cons hc8 .nil) .nil (At.keep (ts := [1, 3, 5, 7, 9, 10, 11, 12]) (ids := [3, 5, 12, 17]) rfl rfl ?_)
      refine At.thenC ?_
      refine W.seq ?_
      refine W.seq ?_
      refine W.region env [] [] rfl rfl rfl .nil .nil (At.keep (ts := [1, 3, 5, 7, 9, 10, 11, 12, 44]) (ids := [3, 5, 12, 17]) rfl rfl ?_)
      refine At.thenC ?_
      refine W.cond rfl (fun hb9 => ?_) (fun hb9 => ?_)
      · have H := of_true H hb9
        refine W.seq ?_
        refine W.region env [] [] rfl rfl rfl .nil .nil (At.keep (ts := [6]) (ids := [17]) rfl rfl ?_)
        refine At.thenC ?_
        refine W.ret ?_
        refine At.rthen ?_
        refine At.rinb ?_
        refine At.rthen ?_
        refine At.rthen ?_
        refine At.rinb ?_
        refine At.rthen ?_
        cases H
        exact At.ret env.ty rfl rfl (fun q hq => by cases hq; exact (by first | rfl | (simp; done) | (simp; omega))) (.refl _) hval
      · have H := of_false H hb9
        refine W.skip ?_
        refine At.thenC ?_
        refine W.seq ?_
        obtain ⟨y10, hy11, H⟩ := of_bindO H
        obtain ⟨hc12, H⟩ := of_must H
        refine W.region env [] [⟨roL 1 enc_Int y10, [], 0⟩] rfl rfl rfl (.cons hc12 .nil) (.free (c_gasolierref03_reached fuel p0 p1 (⟨s6.2.2.1, 0, s6.1⟩ : Trip) hy11) .nil) (At.keep (ts := [1, 3, 5, 7, 11, 12, 13]) (ids := [3, 5, 12, 17]) rfl rfl ?_)
        refine At.thenC ?_
        refine W.seq ?_
        refine W.seq ?_
        refine W.region env [] [] rfl rfl rfl (.cons (fun h => h) (.cons (fun h => h) (.cons (fun h => h) (.cons (fun h => h) (.cons (fun h => h) (.cons (fun h => h) (.cons (fun h => h) (.cons (fun h => h) (.cons (fun h => by rw [h]; rfl) .nil))))))))) .nil (At.keep (ts := [1, 3, 5, 7, 11, 12, 13, 68]) (ids := [3, 5, 12, 17]) rfl rfl ?_)
        refine At.thenC ?_
        refine W.cond rfl (fun hb13 => ?_) (fun hb13 => ?_)
        · have H := of_true H hb13
          refine W.seq ?_
          refine W.region env [] [] rfl rfl rfl .nil .nil (At.keep (ts := [6]) (ids := [17]) rfl rfl ?_)
          refine At.thenC ?_
          refine W.ret ?_
          refine At.rthen ?_
          refine At.rinb ?_
          refine At.rthen ?_
          refine At.rthen ?_
          refine At.rinb ?_
          refine At.rthen ?_
          cases H
          exact At.ret env.ty rfl rfl (fun q hq => by cases hq; exact (by first | rfl | (simp; done) | (simp; omega))) (.refl _) hval
        · have H := of_false H hb13
          refine W.skip ?_
          refine At.thenC ?_
          refine W.seq ?_
          obtain ⟨hc14, H⟩ := of_must H
          refine W.region env [] [] rfl rfl rfl (.cons (⟨by first | rfl | (simp; done) | (simp; omega), hc14⟩) (.cons (⟨by first | rfl | (simp; done) | (simp; omega), (by have := hc14; omega)⟩) .nil)) .nil (At.keep (ts := [1, 3, 5, 7, 11, 12]) (ids := [3, 5, 12, 17]) rfl rfl ?_)
          refine At.convM (.cons (.refl _) (.cons (.refl _) (.cons (.refl _) (.cons (y := bufL 3 1 enc_Int (s6.2.2.2.set (s6.2.1).toNat (max (y10.getD ((p2.Stops.getD (s6.2.1).toNat default).Place).toNat default) ((p2.Stops.getD (s6.2.1).toNat default).Window.Lo)))) (BSim.seg (Seg.set (Seg.refl enc_Int _) (max (y10.getD ((p2.Stops.getD (s6.2.1).toNat default).Place).toNat default) ((p2.Stops.getD (s6.2.1).toNat default).Window.Lo)) rfl)) .nil)))) ?_
          refine At.thenC ?_
          refine W.seq ?_
          obtain ⟨hc15, H⟩ := of_must H
          obtain ⟨hc16, H⟩ := of_must H
          refine W.region env [] [] rfl rfl rfl (.cons (⟨by first | rfl | (simp; done) | (simp; omega), hc15⟩) (.cons (⟨by first | rfl | (simp; done) | (simp; omega), (by have := hc15; omega)⟩) (.cons hc16 .nil))) .nil (At.keep (ts := [1, 3, 5, 7, 10, 11, 12]) (ids := [3, 5, 12, 17]) rfl rfl ?_)
          refine At.thenC ?_
          refine W.region env [] [] rfl rfl rfl .nil .nil (At.keep (ts := [1, 3, 5, 7, 9, 10, 11]) (ids := [3, 5, 17]) rfl rfl ?_)
          refine At.inb ?_
          refine At.thenC ?_
          obtain ⟨hc17, H⟩ := of_must H
          refine W.region env [] [] rfl rfl rfl (.cons hc17 .nil) .nil (At.keep (ts := [1, 3, 5, 7, 9, 10, 11]) (ids := [3, 5, 17]) rfl rfl ?_)
          refine At.thenK (At.keep (ts := [1, 3, 5, 7, 9, 10, 11]) (ids := [3, 5, 17]) rfl rfl ?_)
          exact At.conv (.cons (.of_eq (by first | rfl | (simp; done) | (simp; omega))) (.cons (.of_eq (by first | rfl | (simp; done) | (simp; omega))) (.cons (.of_eq (by first | rfl | (simp; done) | (simp; omega))) (.cons (.of_eq (by refine bufEq ?_; first | (simp [copyAt]; done) | (simp [copyAt]; omega) | rfl)) (.cons (.of_eq (by first | rfl | (simp; done) | (simp; omega))) (.cons (.of_eq (by first | rfl | (simp; done) | (simp; omega))) (.cons (.of_eq (by first | rfl | (simp; done) | (simp; omega))) .nil))))))) (.cons (.of_eq (by first | rfl | (simp; done) | (simp; omega))) (.cons (.of_eq (by first | rfl | (simp; done) | (simp; omega))) (.cons (.of_eq (by first | rfl | (simp; done) | (simp; omega))) .nil))) (hK6 ((((s6.2.2.2.set (s6.2.1).toNat (max (y10.getD ((p2.Stops.getD (s6.2.1).toNat default).Place).toNat default) ((p2.Stops.getD (s6.2.1).toNat default).Window.Lo))).getD (s6.2.1).toNat default) + (p2.Stops.getD (s6.2.1).toNat default).Serve), (s6.2.1 + 1), (p2.Stops.getD (s6.2.1).toNat default).Place, (s6.2.2.2.set (s6.2.1).toNat (max (y10.getD ((p2.Stops.getD (s6.2.1).toNat default).Place).toNat default) ((p2.Stops.getD (s6.2.1).toNat default).Window.Lo)))) H)
    · have H := of_false H hb7
      refine W.exit ?_
      refine At.xthen ?_
      refine At.xthen ?_
      refine At.xhere ?_
      refine At.thenC ?_
      refine W.seq ?_
      refine W.region env [] [] rfl rfl rfl .nil .nil (At.keep (ts := [6]) (ids := [17]) rfl rfl ?_)
      refine At.thenC ?_
      refine W.ret ?_
      cases H
      exact At.ret env.ty rfl rfl (fun q hq => by cases hq; exact (by first | rfl | (simp; done) | (simp; omega))) (.refl _) hval

theorem c_gasolierref03_Went (fuel : Nat) (p0 : Chart) (p1 : (List Int)) (p2 : Round) {r : ((List Int) × Int)} (H : gasolierref03_Went fuel p0 p1 p2 = some r) : Ctr Try.prog 42 [.agg [.int .i64 (p0.Places), roL 7 enc_Way p0.Ways], roL 1 enc_Int p1, .agg [.int .i64 (p2.Place), .int .i64 (p2.At), roL 4 enc_Stop p2.Stops]] (.tup [roL 1 enc_Int r.1, .int .i64 (r.2)]) := by
  unfold gasolierref03_Went at H
  refine Ctr.of_body (N := 23) Try.func42 (by kernel_rfl) (c := _) rfl Try.ntmps42 rfl (fun w0 h0 hval => ?_)
  refine W.seq ?_
  refine W.region env [] [] rfl rfl rfl .nil .nil (At.keep (ts := [1, 3, 5]) (ids := [3, 5]) rfl rfl ?_)
  refine At.thenC ?_
  refine W.seq ?_
  refine W.seq ?_
  obtain ⟨y1, hy2, H⟩ := of_bindO H
  refine W.region env [] [⟨.int .i64 (y1), [], 0⟩] rfl rfl rfl .nil (.free (c_gasolierref03_Check fuel p0 hy2) .nil) (At.keep (ts := [1, 3, 5, 10]) (ids := [3, 5]) rfl rfl ?_)
  refine At.thenC ?_
  refine W.cond rfl (fun hb3 => ?_) (fun hb3 => ?_)
  · have H := of_true H hb3
    refine W.seq ?_
    refine W.region env [] [] rfl rfl rfl .nil .nil (At.keep (ts := [6, 7]) (ids := []) rfl rfl ?_)
    refine At.thenC ?_
    refine W.ret ?_
    refine At.rthen ?_
    cases H
    exact At.ret env.ty rfl rfl (fun q hq => by cases hq) (Sim.tupL (.cons (Sim.nil _ _) (.cons (.refl _) .nil))) hval
  · have H := of_false H hb3
    refine W.skip ?_
    refine At.thenC ?_
    refine W.seq ?_
    refine W.seq ?_
    obtain ⟨y4, hy5, H⟩ := of_bindO H
    refine W.region env [] [⟨.bool (y4), [], 0⟩] rfl rfl rfl .nil (.free (c_gasolierref03_isTook fuel p0 p1 hy5) .nil) (At.keep (ts := [1, 3, 5, 14]) (ids := [3, 5]) rfl rfl ?_)
    refine At.thenC ?_
    refine W.cond rfl (fun hb6 => ?_) (fun hb6 => ?_)
    · have H := of_true H hb6
      refine W.seq ?_
      refine W.region env [] [] rfl rfl rfl .nil .nil (At.keep (ts := [6, 7]) (ids := []) rfl rfl ?_)
      refine At.thenC ?_
      refine W.ret ?_
      refine At.rthen ?_
      cases H
      exact At.ret env.ty rfl rfl (fun q hq => by cases hq) (Sim.tupL (.cons (Sim.nil _ _) (.cons (.refl _) .nil))) hval
    · have H := of_false H hb6
      refine W.skip ?_
      refine At.thenC ?_
      refine W.seq ?_
      refine W.seq ?_
      obtain ⟨y7, hy8, H⟩ := of_bindO H
      refine W.region env [] [⟨.bool (y7), [], 0⟩] rfl rfl rfl .nil (.free (c_gasolierref03_isRound fuel p0 p2 hy8) .nil) (At.keep (ts := [1, 3, 5, 18]) (ids := [3, 5]) rfl rfl ?_)
      refine At.thenC ?_
      refine W.cond rfl (fun hb9 => ?_) (fun hb9 => ?_)
      · have H := of_true H hb9
        refine W.seq ?_
        refine W.region env [] [] rfl rfl rfl .nil .nil (At.keep (ts := [6, 7]) (ids := []) rfl rfl ?_)
        refine At.thenC ?_
        refine W.ret ?_
        refine At.rthen ?_
        cases H
        exact At.ret env.ty rfl rfl (fun q hq => by cases hq) (Sim.tupL (.cons (Sim.nil _ _) (.cons (.refl _) .nil))) hval
      · have H := of_false H hb9
        refine W.skip ?_
        refine At.thenC ?_
        refine W.seq ?_
        obtain ⟨y10, hy11, H⟩ := of_bindO H
        refine W.region env [] [⟨roL 1 enc_Int y10, [], 0⟩] rfl rfl rfl .nil (.free (c_gasolierref03_begins fuel p0 p1 p2 hy11) .nil) (At.keep (ts := [6, 7]) (ids := []) rfl rfl ?_)
        refine At.thenC ?_
        refine W.ret ?_
        cases H
        exact At.ret env.ty rfl rfl (fun q hq => by cases hq) (.refl _) hval

theorem c_gasolierref03_CheckTook (fuel : Nat) (p0 : Chart) (p1 : (List Int)) {r : Int} (H : gasolierref03_CheckTook fuel p0 p1 = some r) : Ctr Try.prog 44 [.agg [.int .i64 (p0.Places), roL 7 enc_Way p0.Ways], roL 1 enc_Int p1] (.int .i64 (r)) := by
  unfold gasolierref03_CheckTook at H
  refine Ctr.of_body (N := 12) Try.func44 (by kernel_rfl) (c := _) rfl Try.ntmps44 rfl (fun w0 h0 hval => ?_)
  refine W.seq ?_
  refine W.region env [] [] rfl rfl rfl .nil .nil (At.keep (ts := [1, 2]) (ids := [2]) rfl rfl ?_)
  refine At.thenC ?_
  refine W.seq ?_
  refine W.seq ?_
  obtain ⟨y1, hy2, H⟩ := of_bindO H
  refine W.region env [] [⟨.int .i64 (y1), [], 0⟩] rfl rfl rfl .nil (.free (c_gasolierref03_Check fuel p0 hy2) .nil) (At.keep (ts := [1, 2, 7]) (ids := [2]) rfl rfl ?_)
  refine At.thenC ?_
  refine W.cond rfl (fun hb3 => ?_) (fun hb3 => ?_)
  · have H := of_true H hb3
    refine W.seq ?_
    refine W.region env [] [] rfl rfl rfl .nil .nil (At.keep (ts := [4]) (ids := []) rfl rfl ?_)
    refine At.thenC ?_
    refine W.ret ?_
    refine At.rthen ?_
    cases H
    exact At.ret env.ty rfl rfl (fun q hq => by cases hq) (.refl _) hval
  · have H := of_false H hb3
    refine W.skip ?_
    refine At.thenC ?_
    refine W.seq ?_
    refine W.seq ?_
    obtain ⟨y4, hy5, H⟩ := of_bindO H
    refine W.region env [] [⟨.bool (y4), [], 0⟩] rfl rfl rfl .nil (.free (c_gasolierref03_isTook fuel p0 p1 hy5) .nil) (At.keep (ts := [11]) (ids := []) rfl rfl ?_)
    refine At.thenC ?_
    refine W.cond rfl (fun hb6 => ?_) (fun hb6 => ?_)
    · have H := of_true H hb6
      refine W.seq ?_
      refine W.region env [] [] rfl rfl rfl .nil .nil (At.keep (ts := [4]) (ids := []) rfl rfl ?_)
      refine At.thenC ?_
      refine W.ret ?_
      refine At.rthen ?_
      cases H
      exact At.ret env.ty rfl rfl (fun q hq => by cases hq) (.refl _) hval
    · have H := of_false H hb6
      refine W.skip ?_
      refine At.thenC ?_
      refine W.seq ?_
      refine W.region env [] [] rfl rfl rfl .nil .nil (At.keep (ts := [4]) (ids := []) rfl rfl ?_)
      refine At.thenC ?_
      refine W.ret ?_
      cases H
      exact At.ret env.ty rfl rfl (fun q hq => by cases hq) (.refl _) hval

theorem c_gasolierlaw03_RoundWalks (fuel : Nat) (p0 : Chart) (p1 : (List Int)) (p2 : Round) {r : Bool} (H : gasolierlaw03_RoundWalks fuel p0 p1 p2 = some r) : Ctr Try.prog 9 [.agg [.int .i64 (p0.Places), roL 7 enc_Way p0.Ways], roL 1 enc_Int p1, .agg [.int .i64 (p2.Place), .int .i64 (p2.At), roL 4 enc_Stop p2.Stops]] (.bool (r)) := by
  unfold gasolierlaw03_RoundWalks at H
  refine Ctr.of_body (N := 86) Try.func9 (by kernel_rfl) (c := _) rfl Try.ntmps9 rfl (fun w0 h0 hval => ?_)
  refine W.seq ?_
  refine W.region env [] [] rfl rfl rfl .nil .nil (At.keep (ts := [1, 3, 5]) (ids := [3, 5]) rfl rfl ?_)
  refine At.thenC ?_
  refine W.seq ?_
  obtain ⟨y1, hy2, H⟩ := of_bindO H
  refine W.region env [] [⟨.bool (y1), [], 0⟩] rfl rfl rfl .nil (.free (c_gasolierlaw03_sane fuel hy2) .nil) (At.keep (ts := [1, 3, 5, 7]) (ids := [3, 5]) rfl rfl ?_)
  refine At.thenC ?_
  refine W.seq ?_
  obtain ⟨y3, hy4, H⟩ := of_bindO H
  refine W.region env [] [⟨.tup [roL 1 enc_Int y3.1, .int .i64 (y3.2)], [], 0⟩] rfl rfl rfl .nil (.free (c_round_Walked fuel p0 p1 p2.Place p2.At hy4) .nil) (At.keep (ts := [1, 3, 5, 7, 8, 9]) (ids := [3, 5]) rfl rfl ?_)
  refine At.thenC ?_
  refine W.seq ?_
  obtain ⟨y5, hy6, H⟩ := of_bindO H
  refine W.region env [] [⟨.tup [roL 1 enc_Int y5.1, .int .i64 (y5.2)], [], 0⟩] rfl rfl rfl .nil (.free (c_gasolierref03_Walked fuel p0 p1 (⟨p2.Place, 0, p2.At⟩ : Trip) hy6) .nil) (At.keep (ts := [1, 3, 5, 7, 8, 9, 10, 11]) (ids := [3, 5]) rfl rfl ?_)
  refine At.thenC ?_
  refine W.seq ?_
  obtain ⟨y7, hy8, H⟩ := of_bindO H
  refine W.region env [] [⟨.tup [roL 1 enc_Int y7.1, .int .i64 (y7.2)], [], 0⟩] rfl rfl rfl .nil (.free (c_round_Went fuel p0 p1 p2 hy8) .nil) (At.keep (ts := [1, 3, 5, 7, 8, 9, 10, 11, 12, 13]) (ids := [3, 5]) rfl rfl ?_)
  refine At.thenC ?_
  refine W.seq ?_
  obtain ⟨y9, hy10, H⟩ := of_bindO H
  refine W.region env [] [⟨.tup [roL 1 enc_Int y9.1, .int .i64 (y9.2)], [], 0⟩] rfl rfl rfl .nil (.free (c_gasolierref03_Went fuel p0 p1 p2 hy10) .nil) (At.keep (ts := [1, 3, 7, 8, 9, 10, 11, 12, 13, 14, 15]) (ids := [3]) rfl rfl ?_)
  refine At.thenC ?_
  refine W.seq ?_
  obtain ⟨y11, hy12, H⟩ := of_bindO H
  refine W.region env [] [⟨.bool (y11), [], 0⟩] rfl rfl rfl .nil (.free (c_gasolierref03_Same fuel y3.1 y5.1 hy12) .nil) (At.keep (ts := [1, 3, 7, 9, 11, 12, 13, 14, 15, 16]) (ids := [3]) rfl rfl ?_)
  refine At.thenC ?_
  refine W.seq ?_
  obtain ⟨y13, hy14, H⟩ := of_bindO H
  refine W.region env [] [⟨.bool (y13), [], 0⟩] rfl rfl rfl .nil (.free (c_gasolierref03_Same fuel y7.1 y9.1 hy14) .nil) (At.keep (ts := [1, 3, 7, 9, 11, 13, 15, 16, 17]) (ids := [3]) rfl rfl ?_)
  refine At.thenC ?_
  refine W.seq ?_
  obtain ⟨y15, hy16, H⟩ := of_bindO H
  obtain ⟨y17, hy18, H⟩ := of_bindO H
  refine W.region env [] [⟨.int .i64 (y15), [], 0⟩, ⟨.int .i64 (y17), [], 0⟩] rfl rfl rfl (.cons (fun h => h) (.cons (fun h => h) (.cons (fun h => h) (.cons (fun h => h) (.cons (fun h => h) (.cons (fun h => h) (.cons (fun h => h) (.cons (fun h => h) (.cons (fun h => h) (.cons (fun h => h) (.cons (fun h => h) (.cons (fun h => h) (.cons (fun h => h) (.cons (fun h => h) (.cons (fun h => h) .nil))))))))))))))) (.on (fun hW => c_round_CheckTook p0 p1 (of_true hy16 hW)) (.on (fun hW => c_gasolierref03_CheckTook fuel p0 p1 (of_true hy18 hW)) .nil)) (At.keep (ts := [6]) (ids := []) rfl rfl ?_)
  refine At.thenC ?_
  refine W.ret ?_
  cases H
  exact At.ret env.ty rfl rfl (fun q hq => by cases hq) (.refl _) hval

end Go.Sp
