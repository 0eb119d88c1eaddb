/- Printed by gen.py: contracts, part 2. -/
import Derived.Test.YtjeolkdhicmhgaaCtr1
set_option linter.all false
set_option maxRecDepth 100000
namespace Go.Sp
open Go Go.Av Go.Proofs

theorem c_gasolierref03_Made (fuel : Nat) (p0 : gasolierref03_Raw) {r : (Chart × Round)} (H : gasolierref03_Made fuel p0 = some r) : Ctr Try.prog 20 [.agg [.int .i64 (p0.Places), roL 7 enc_Arr7Int p0.Ways, .int .i64 (p0.Round.x0), .int .i64 (p0.Round.x1), roL 4 enc_Arr4Int p0.Stops]] (.tup [.agg [.int .i64 (r.1.Places), roL 7 enc_Way r.1.Ways], .agg [.int .i64 (r.2.Place), .int .i64 (r.2.At), roL 4 enc_Stop r.2.Stops]]) := by
  unfold gasolierref03_Made at H
  refine Ctr.of_body (N := 176) Try.func20 (by kernel_rfl) (c := _) rfl Try.ntmps20 rfl (fun w0 h0 hval => ?_)
  refine W.seq ?_
  refine W.region env [] [] rfl rfl rfl .nil .nil (At.keep (ts := [1, 2, 3]) (ids := [1, 2, 3]) rfl rfl ?_)
  refine At.thenC ?_
  refine W.seq ?_
  obtain ⟨y1, hy2, H⟩ := of_bindO H
  obtain ⟨hc3, H⟩ := of_must H
  refine W.region env [] [⟨.int .i64 (y1), [], 0⟩] rfl rfl rfl (.cons hc3 .nil) (.free (c_gasolierref03_Mod p0.Places 5 hy2) .nil) (At.keep (ts := [1, 2, 3, 4]) (ids := [1, 2, 3, 4]) rfl rfl ?_)
  refine At.thenC ?_
  refine W.seq ?_
  refine W.seq ?_
  refine W.region env [] [] rfl rfl rfl .nil .nil (At.keep (ts := [1, 2, 3, 4, 5]) (ids := [1, 2, 3, 4]) rfl rfl ?_)
  refine At.thenC ?_
  refine W.block ?_
  refine At.nilOwnCell 4 1 801 53 7 (e := fun i => enc_Way (([] : List Way).getD i default)) rfl rfl rfl ?_
  refine At.keep (ts := [1, 2, 3, 4, 5]) (ids := [1, 2, 3, 4, 801]) rfl rfl ?_
  refine W.loopGo H (fun (s4 : Int × (List Way)) => [(1, .lp 1 0), (2, .lp 2 0), (3, .lp 3 0), (4, .lp 4 0), (5, .int .i64 (s4.1))]) (fun (s4 : Int × (List Way)) => [(1, .cells [.int .i64 (p0.Places), roL 7 enc_Arr7Int p0.Ways, .int .i64 (p0.Round.x0), .int .i64 (p0.Round.x1), roL 4 enc_Arr4Int p0.Stops]), (2, .cells [.int .i64 (0), .nilS]), (3, .cells [.int .i64 (0), .int .i64 (0), .nilS]), (4, .cells [.int .i64 ((2 + y1)), .buf 801 (s4.2).length]), (801, bufL 53 7 enc_Way s4.2)]) (.cons (.of_eq (by first | rfl | (simp; done) | (simp; omega))) (.cons (.of_eq (by first | rfl | (simp; done) | (simp; omega))) (.cons (.of_eq (by first | rfl | (simp; done) | (simp; omega))) (.cons (.of_eq (by first | rfl | (simp; done) | (simp; omega))) (.cons (.of_eq (by first | rfl | (simp; done) | (simp; omega))) .nil))))) (.cons (.of_eq (by first | rfl | (simp; done) | (simp; omega))) (.cons (.of_eq (by first | rfl | (simp; done) | (simp; omega))) (.cons (.of_eq (by first | rfl | (simp; done) | (simp; omega))) (.cons (.of_eq (by first | rfl | (simp; done) | (simp; omega))) (.cons (.of_eq (by first | rfl | (simp; done) | (simp; omega))) .nil))))) (fun k4 s4 H K0 hK4 => ?_)
  refine W.seq ?_
  refine W.seq ?_
  refine W.region env [] [] rfl rfl rfl (.cons (fun h => h) (.cons (fun h => h) .nil)) .nil (At.keep (ts := [1, 2, 3, 4, 5, 27]) (ids := [1, 2, 3, 4, 801]) rfl rfl ?_)
  refine At.thenC ?_
  refine W.cond rfl (fun hb5 => ?_) (fun hb5 => ?_)
  · have H := of_true H hb5
    refine W.skip ?_
    refine At.thenC ?_
    refine W.seq ?_
    refine W.block ?_
    refine W.seq ?_
    obtain ⟨hc6, H⟩ := of_must H
    refine W.region env [] [] rfl rfl rfl (.cons hc6 .nil) .nil (At.keep (ts := [1, 2, 3, 4, 5, 6]) (ids := [1, 2, 3, 4, 6, 801]) rfl rfl ?_)
    refine At.thenC ?_
    refine W.seq ?_
    obtain ⟨y7, hy8, H⟩ := of_bindO H
    refine W.region env [] [⟨.int .i64 (y7), [], 0⟩] rfl rfl rfl (.cons (by decide) .nil) (.free (c_gasolierref03_Mod ((p0.Ways.getD (s4.1).toNat default).x0) (2 + y1) hy8) .nil) (At.keep (ts := [1, 2, 3, 4, 5, 6, 7]) (ids := [1, 2, 3, 4, 6, 801]) rfl rfl ?_)
    refine At.thenC ?_
    refine W.seq ?_
    obtain ⟨hc9, H⟩ := of_must H
    obtain ⟨hc10, H⟩ := of_must H
    obtain ⟨y11, hy12, H⟩ := of_bindO H
    obtain ⟨hc13, H⟩ := of_must H
    obtain ⟨hc14, H⟩ := of_must H
    refine W.region env [] [⟨.int .i64 (y11), [], 0⟩] rfl rfl rfl (.cons hc9 (.cons (by decide) (.cons hc10 (.cons hc13 (.cons hc14 .nil))))) (.free (c_gasolierref03_Mod ((p0.Ways.getD (s4.1).toNat default).x1) ((2 + y1) - 1) hy12) .nil) (At.keep (ts := [1, 2, 3, 4, 5, 6, 8]) (ids := [1, 2, 3, 4, 6, 8, 801]) rfl rfl ?_)
    refine At.thenC ?_
    refine W.seq ?_
    obtain ⟨y15, hy16, H⟩ := of_bindO H
    obtain ⟨hc17, H⟩ := of_must H
    refine W.region env [] [⟨.int .i64 (y15), [], 0⟩] rfl rfl rfl (.cons (by decide) (.cons hc17 .nil)) (.free (c_gasolierref03_Mod ((p0.Ways.getD (s4.1).toNat default).x2) 20 hy16) .nil) (At.keep (ts := [1, 2, 3, 4, 5, 6, 8]) (ids := [1, 2, 3, 4, 6, 8, 801]) rfl rfl ?_)
    refine At.thenC ?_
    refine W.seq ?_
    obtain ⟨y18, hy19, H⟩ := of_bindO H
    obtain ⟨hc20, H⟩ := of_must H
    refine W.region env [] [⟨.int .i64 (y18), [], 0⟩] rfl rfl rfl (.cons (by decide) (.cons hc20 .nil)) (.free (c_gasolierref03_Mod ((p0.Ways.getD (s4.1).toNat default).x3) 12 hy19) .nil) (At.keep (ts := [1, 2, 3, 4, 5, 6, 8]) (ids := [1, 2, 3, 4, 6, 8, 801]) rfl rfl ?_)
    refine At.thenC ?_
    refine W.seq ?_
    refine W.region env [] [] rfl rfl rfl .nil .nil (At.keep (ts := [1, 2, 3, 4, 5, 6, 8]) (ids := [1, 2, 3, 4, 6, 8, 801]) rfl rfl ?_)
    refine At.thenC ?_
    refine W.seq ?_
    refine W.seq ?_
    obtain ⟨y21, hy22, H⟩ := of_bindO H
    refine W.region env [] [⟨.int .i64 (y21), [], 0⟩] rfl rfl rfl (.cons (by decide) .nil) (.free (c_gasolierref03_Mod ((p0.Ways.getD (s4.1).toNat default).x4) 3 hy22) .nil) (At.keep (ts := [1, 2, 3, 4, 5, 6, 8, 74]) (ids := [1, 2, 3, 4, 6, 8, 801]) rfl rfl ?_)
    refine At.thenC ?_
    refine W.joinC H (fun (s23 : Way) => [(1, .lp 1 0), (2, .lp 2 0), (3, .lp 3 0), (4, .lp 4 0), (5, .int .i64 (s4.1)), (6, .lp 6 0), (8, .lp 8 0)]) (fun (s23 : Way) => [(1, .cells [.int .i64 (p0.Places), roL 7 enc_Arr7Int p0.Ways, .int .i64 (p0.Round.x0), .int .i64 (p0.Round.x1), roL 4 enc_Arr4Int p0.Stops]), (2, .cells [.int .i64 (0), .nilS]), (3, .cells [.int .i64 (0), .int .i64 (0), .nilS]), (4, .cells [.int .i64 ((2 + y1)), .buf 801 (s4.2).length]), (6, .cells [.int .i64 ((p0.Ways.getD (s4.1).toNat default).x0), .int .i64 ((p0.Ways.getD (s4.1).toNat default).x1), .int .i64 ((p0.Ways.getD (s4.1).toNat default).x2), .int .i64 ((p0.Ways.getD (s4.1).toNat default).x3), .int .i64 ((p0.Ways.getD (s4.1).toNat default).x4), .int .i64 ((p0.Ways.getD (s4.1).toNat default).x5), .int .i64 ((p0.Ways.getD (s4.1).toNat default).x6)]), (8, .cells [.int .i64 (s23.From), .int .i64 (s23.To), .int .i64 (s23.Takes.Lo), .int .i64 (s23.Takes.Hi), .int .i64 (s23.Open.Lo), .int .i64 (s23.Open.Hi), .int .i64 (s23.Every)]), (801, bufL 53 7 enc_Way s4.2)]) (fun s23 H => ?_) (fun k23 H hK23 => ?_)
    · refine W.seq ?_
      refine W.seq ?_
      obtain ⟨y24, hy25, H⟩ := of_bindO H
      refine W.region env [] [⟨.int .i64 (y24), [], 0⟩] rfl rfl rfl (.cons (by decide) .nil) (.free (c_gasolierref03_Mod ((p0.Ways.getD (s4.1).toNat default).x4) 3 hy25) .nil) (At.keep (ts := [1, 2, 3, 4, 5, 6, 8, 92]) (ids := [1, 2, 3, 4, 6, 8, 801]) rfl rfl ?_)
      refine At.thenC ?_
      refine W.joinC H (fun (s26 : Way) => [(1, .lp 1 0), (2, .lp 2 0), (3, .lp 3 0), (4, .lp 4 0), (5, .int .i64 (s4.1)), (8, .lp 8 0)]) (fun (s26 : Way) => [(1, .cells [.int .i64 (p0.Places), roL 7 enc_Arr7Int p0.Ways, .int .i64 (p0.Round.x0), .int .i64 (p0.Round.x1), roL 4 enc_Arr4Int p0.Stops]), (2, .cells [.int .i64 (0), .nilS]), (3, .cells [.int .i64 (0), .int .i64 (0), .nilS]), (4, .cells [.int .i64 ((2 + y1)), .buf 801 (s4.2).length]), (8, .cells [.int .i64 (s26.From), .int .i64 (s26.To), .int .i64 (s26.Takes.Lo), .int .i64 (s26.Takes.Hi), .int .i64 (s26.Open.Lo), .int .i64 (s26.Open.Hi), .int .i64 (s26.Every)]), (801, bufL 53 7 enc_Way s4.2)]) (fun s26 H => ?_) (fun k26 H hK26 => ?_)
      · obtain ⟨hc27, H⟩ := of_must H
        refine W.region env [] [] rfl rfl rfl (.cons (⟨by first | rfl | (simp; done) | (simp; omega), by have := hc27; first | simpa using this | (unfold room at this ⊢; simp at this ⊢; omega)⟩) .nil) .nil (At.keep (ts := [1, 2, 3, 4, 5]) (ids := [1, 2, 3, 4, 801]) rfl rfl ?_)
        refine At.convM (.cons (.refl _) (.cons (.refl _) (.cons (.refl _) (.cons (.refl _) (.cons (y := bufL 53 7 enc_Way (s4.2 ++ ([s26] : List Way))) (BSim.seg (Seg.push (Seg.refl enc_Way _) (Seg.lit (f := enc_Way) (sz := 7) ([s26] : List Way) rfl rfl (fun _ => rfl)))) .nil))))) ?_
        refine At.inb ?_
        refine At.thenC ?_
        obtain ⟨hc28, H⟩ := of_must H
        refine W.region env [] [] rfl rfl rfl (.cons hc28 .nil) .nil (At.keep (ts := [1, 2, 3, 4, 5]) (ids := [1, 2, 3, 4, 801]) rfl rfl ?_)
        refine At.thenK (At.keep (ts := [1, 2, 3, 4, 5]) (ids := [1, 2, 3, 4, 801]) rfl rfl ?_)
        exact At.conv (.cons (.of_eq (by first | rfl | (simp; done) | (simp; omega))) (.cons (.of_eq (by first | rfl | (simp; done) | (simp; omega))) (.cons (.of_eq (by first | rfl | (simp; done) | (simp; omega))) (.cons (.of_eq (by first | rfl | (simp; done) | (simp; omega))) (.cons (.of_eq (by first | rfl | (simp; done) | (simp; omega))) .nil))))) (.cons (.of_eq (by first | rfl | (simp; done) | (simp; omega))) (.cons (.of_eq (by first | rfl | (simp; done) | (simp; omega))) (.cons (.of_eq (by first | rfl | (simp; done) | (simp; omega))) (.cons (.of_eq (by first | rfl | (simp; done) | (simp; omega))) (.cons (.of_eq (by first | rfl | (simp; done) | (simp; omega))) .nil))))) (hK4 ((s4.1 + 1), (s4.2 ++ ([s26] : List Way))) H)
      · refine W.cond rfl (fun hb29 => ?_) (fun hb29 => ?_)
        · have H := of_true H hb29
          obtain ⟨y30, hy31, H⟩ := of_bindO H
          obtain ⟨hc32, H⟩ := of_must H
          refine W.region env [] [⟨.int .i64 (y30), [], 0⟩] rfl rfl rfl (.cons (by decide) (.cons hc32 .nil)) (.free (c_gasolierref03_Mod ((p0.Ways.getD (s4.1).toNat default).x6) 40 hy31) .nil) (At.keep (ts := [1, 2, 3, 4, 5, 8]) (ids := [1, 2, 3, 4, 8, 801]) rfl rfl ?_)
          refine At.thenK (At.keep (ts := [1, 2, 3, 4, 5, 8]) (ids := [1, 2, 3, 4, 8, 801]) rfl rfl ?_)
          exact At.conv (.cons (.of_eq (by first | rfl | (simp; done) | (simp; omega))) (.cons (.of_eq (by first | rfl | (simp; done) | (simp; omega))) (.cons (.of_eq (by first | rfl | (simp; done) | (simp; omega))) (.cons (.of_eq (by first | rfl | (simp; done) | (simp; omega))) (.cons (.of_eq (by first | rfl | (simp; done) | (simp; omega))) (.cons (.of_eq (by first | rfl | (simp; done) | (simp; omega))) .nil)))))) (.cons (.of_eq (by first | rfl | (simp; done) | (simp; omega))) (.cons (.of_eq (by first | rfl | (simp; done) | (simp; omega))) (.cons (.of_eq (by first | rfl | (simp; done) | (simp; omega))) (.cons (.of_eq (by first | rfl | (simp; done) | (simp; omega))) (.cons (.of_eq (by first | rfl | (simp; done) | (simp; omega))) (.cons (.of_eq (by first | rfl | (simp; done) | (simp; omega))) .nil)))))) (hK26 (⟨s23.From, s23.To, s23.Takes, s23.Open, (1 + y30)⟩ : Way) H)
        · have H := of_false H hb29
          refine W.skip ?_
          refine At.thenK (At.keep (ts := [1, 2, 3, 4, 5, 8]) (ids := [1, 2, 3, 4, 8, 801]) rfl rfl ?_)
          exact At.conv (.cons (.of_eq (by first | rfl | (simp; done) | (simp; omega))) (.cons (.of_eq (by first | rfl | (simp; done) | (simp; omega))) (.cons (.of_eq (by first | rfl | (simp; done) | (simp; omega))) (.cons (.of_eq (by first | rfl | (simp; done) | (simp; omega))) (.cons (.of_eq (by first | rfl | (simp; done) | (simp; omega))) (.cons (.of_eq (by first | rfl | (simp; done) | (simp; omega))) .nil)))))) (.cons (.of_eq (by first | rfl | (simp; done) | (simp; omega))) (.cons (.of_eq (by first | rfl | (simp; done) | (simp; omega))) (.cons (.of_eq (by first | rfl | (simp; done) | (simp; omega))) (.cons (.of_eq (by first | rfl | (simp; done) | (simp; omega))) (.cons (.of_eq (by first | rfl | (simp; done) | (simp; omega))) (.cons (.of_eq (by first | rfl | (simp; done) | (simp; omega))) .nil)))))) (hK26 s23 H)
    · refine W.cond rfl (fun hb33 => ?_) (fun hb33 => ?_)
      · have H := of_true H hb33
        refine W.seq ?_
        obtain ⟨y34, hy35, H⟩ := of_bindO H
        refine W.region env [] [⟨.int .i64 (y34), [], 0⟩] rfl rfl rfl (.cons (by decide) .nil) (.free (c_gasolierref03_Mod ((p0.Ways.getD (s4.1).toNat default).x5) 200 hy35) .nil) (At.keep (ts := [1, 2, 3, 4, 5, 6, 8]) (ids := [1, 2, 3, 4, 6, 8, 801]) rfl rfl ?_)
        refine At.thenC ?_
        obtain ⟨y36, hy37, H⟩ := of_bindO H
        obtain ⟨hc38, H⟩ := of_must H
        refine W.region env [] [⟨.int .i64 (y36), [], 0⟩] rfl rfl rfl (.cons (by decide) (.cons hc38 .nil)) (.free (c_gasolierref03_Mod ((p0.Ways.getD (s4.1).toNat default).x6) 150 hy37) .nil) (At.keep (ts := [1, 2, 3, 4, 5, 6, 8]) (ids := [1, 2, 3, 4, 6, 8, 801]) rfl rfl ?_)
        refine At.thenK (At.keep (ts := [1, 2, 3, 4, 5, 6, 8]) (ids := [1, 2, 3, 4, 6, 8, 801]) rfl rfl ?_)
        exact At.conv (.cons (.of_eq (by first | rfl | (simp; done) | (simp; omega))) (.cons (.of_eq (by first | rfl | (simp; done) | (simp; omega))) (.cons (.of_eq (by first | rfl | (simp; done) | (simp; omega))) (.cons (.of_eq (by first | rfl | (simp; done) | (simp; omega))) (.cons (.of_eq (by first | rfl | (simp; done) | (simp; omega))) (.cons (.of_eq (by first | rfl | (simp; done) | (simp; omega))) (.cons (.of_eq (by first | rfl | (simp; done) | (simp; omega))) .nil))))))) (.cons (.of_eq (by first | rfl | (simp; done) | (simp; omega))) (.cons (.of_eq (by first | rfl | (simp; done) | (simp; omega))) (.cons (.of_eq (by first | rfl | (simp; done) | (simp; omega))) (.cons (.of_eq (by first | rfl | (simp; done) | (simp; omega))) (.cons (.of_eq (by first | rfl | (simp; done) | (simp; omega))) (.cons (.of_eq (by first | rfl | (simp; done) | (simp; omega))) (.cons (.of_eq (by first | rfl | (simp; done) | (simp; omega))) .nil))))))) (hK23 (⟨y7, (Int.tmod ((y7 + 1) + y11) (2 + y1)), (⟨(1 + y15), ((1 + y15) + y18)⟩ : Range), (⟨y34, (y34 + y36)⟩ : Range), 0⟩ : Way) H)
      · have H := of_false H hb33
        refine W.skip ?_
        refine At.thenK (At.keep (ts := [1, 2, 3, 4, 5, 6, 8]) (ids := [1, 2, 3, 4, 6, 8, 801]) rfl rfl ?_)
        exact At.conv (.cons (.of_eq (by first | rfl | (simp; done) | (simp; omega))) (.cons (.of_eq (by first | rfl | (simp; done) | (simp; omega))) (.cons (.of_eq (by first | rfl | (simp; done) | (simp; omega))) (.cons (.of_eq (by first | rfl | (simp; done) | (simp; omega))) (.cons (.of_eq (by first | rfl | (simp; done) | (simp; omega))) (.cons (.of_eq (by first | rfl | (simp; done) | (simp; omega))) (.cons (.of_eq (by first | rfl | (simp; done) | (simp; omega))) .nil))))))) (.cons (.of_eq (by first | rfl | (simp; done) | (simp; omega))) (.cons (.of_eq (by first | rfl | (simp; done) | (simp; omega))) (.cons (.of_eq (by first | rfl | (simp; done) | (simp; omega))) (.cons (.of_eq (by first | rfl | (simp; done) | (simp; omega))) (.cons (.of_eq (by first | rfl | (simp; done) | (simp; omega))) (.cons (.of_eq (by first | rfl | (simp; done) | (simp; omega))) (.cons (.of_eq (by first | rfl | (simp; done) | (simp; omega))) .nil))))))) (hK23 (⟨y7, (Int.tmod ((y7 + 1) + y11) (2 + y1)), (⟨(1 + y15), ((1 + y15) + y18)⟩ : Range), (⟨0, 1439⟩ : Range), 0⟩ : Way) H)
  · have H := of_false H hb5
    refine W.exit ?_
    refine At.xthen ?_
    refine At.xthen ?_
    refine At.xhere ?_
    refine At.thenC ?_
    refine W.seq ?_
    obtain ⟨y39, hy40, H⟩ := of_bindO H
    obtain ⟨y41, hy42, H⟩ := of_bindO H
    refine W.region env [] [⟨.int .i64 (y39), [], 0⟩, ⟨.int .i64 (y41), [], 0⟩] rfl rfl rfl (.cons (by decide) (.cons (by decide) .nil)) (.free (c_gasolierref03_Mod p0.Round.x0 (2 + y1) hy40) (.free (c_gasolierref03_Mod p0.Round.x1 150 hy42) .nil)) (At.keep (ts := [1, 2, 3, 4, 9]) (ids := [1, 2, 3, 4, 9, 801]) rfl rfl ?_)
    refine At.thenC ?_
    refine W.seq ?_
    refine W.region env [] [] rfl rfl rfl .nil .nil (At.keep (ts := [1, 2, 3, 4, 9, 10]) (ids := [1, 2, 3, 4, 9, 801]) rfl rfl ?_)
    refine At.thenC ?_
    refine W.seq ?_
    refine W.seq ?_
    refine W.region env [] [] rfl rfl rfl .nil .nil (At.keep (ts := [1, 2, 3, 4, 9, 10, 11]) (ids := [1, 2, 3, 4, 9, 801]) rfl rfl ?_)
    refine At.thenC ?_
    refine W.block ?_
    refine At.nilOwnCell 9 2 1052 87 4 (e := fun i => enc_Stop (([] : List Stop).getD i default)) rfl rfl rfl ?_
    refine At.keep (ts := [1, 2, 3, 4, 9, 10, 11]) (ids := [1, 2, 3, 4, 9, 801, 1052]) rfl rfl ?_
    refine W.loopGo H (fun (s43 : Int × Int × (List Stop)) => [(1, .lp 1 0), (2, .lp 2 0), (3, .lp 3 0), (4, .lp 4 0), (9, .lp 9 0), (10, .int .i64 (s43.1)), (11, .int .i64 (s43.2.1))]) (fun (s43 : Int × Int × (List Stop)) => [(1, .cells [.int .i64 (p0.Places), roL 7 enc_Arr7Int p0.Ways, .int .i64 (p0.Round.x0), .int .i64 (p0.Round.x1), roL 4 enc_Arr4Int p0.Stops]), (2, .cells [.int .i64 (0), .nilS]), (3, .cells [.int .i64 (0), .int .i64 (0), .nilS]), (4, .cells [.int .i64 ((2 + y1)), .buf 801 (s4.2).length]), (9, .cells [.int .i64 (y39), .int .i64 (y41), .buf 1052 (s43.2.2).length]), (801, bufL 53 7 enc_Way s4.2), (1052, bufL 87 4 enc_Stop s43.2.2)]) (.cons (.of_eq (by first | rfl | (simp; done) | (simp; omega))) (.cons (.of_eq (by first | rfl | (simp; done) | (simp; omega))) (.cons (.of_eq (by first | rfl | (simp; done) | (simp; omega))) (.cons (.of_eq (by first | rfl | (simp; done) | (simp; omega))) (.cons (.of_eq (by first | rfl | (simp; done) | (simp; omega))) (.cons (.of_eq (by first | rfl | (simp; done) | (simp; omega))) (.cons (.of_eq (by first | rfl | (simp; done) | (simp; omega))) .nil))))))) (.cons (.of_eq (by first | rfl | (simp; done) | (simp; omega))) (.cons (.of_eq (by first | rfl | (simp; done) | (simp; omega))) (.cons (.of_eq (by first | rfl | (simp; done) | (simp; omega))) (.cons (.of_eq (by first | rfl | (simp; done) | (simp; omega))) (.cons (.of_eq (by first | rfl | (simp; done) | (simp; omega))) (.cons (.of_eq (by first | rfl | (simp; done) | (simp; omega))) (.cons (.of_eq (by first | rfl | (simp; done) | (simp; omega))) .nil))))))) (fun k43 s43 H K0 hK43 => ?_)
    refine W.seq ?_
    refine W.seq ?_
    refine W.region env [] [] rfl rfl rfl (.cons (fun h => h) (.cons (fun h => h) .nil)) .nil (At.keep (ts := [1, 2, 3, 4, 9, 10, 11, 125]) (ids := [1, 2, 3, 4, 9, 801, 1052]) rfl rfl ?_)
    refine At.thenC ?_
    refine W.cond rfl (fun hb44 => ?_) (fun hb44 => ?_)
    · have H := of_true H hb44
      refine W.skip ?_
      refine At.thenC ?_
      refine W.seq ?_
      refine W.block ?_
      refine W.seq ?_
      obtain ⟨hc45, H⟩ := of_must H
      refine W.region env [] [] rfl rfl rfl (.cons hc45 .nil) .nil (At.keep (ts := [1, 2, 3, 4, 9, 10, 11, 12]) (ids := [1, 2, 3, 4, 9, 12, 801, 1052]) rfl rfl ?_)
      refine At.thenC ?_
      refine W.seq ?_
      obtain ⟨y46, hy47, H⟩ := of_bindO H
      obtain ⟨y48, hy49, H⟩ := of_bindO H
      refine W.region env [] [⟨.int .i64 (y46), [], 0⟩, ⟨.int .i64 (y48), [], 0⟩] rfl rfl rfl (.cons (by decide) (.cons (by decide) .nil)) (.free (c_gasolierref03_Mod ((p0.Stops.getD (s43.2.1).toNat default).x0) (2 + y1) hy47) (.free (c_gasolierref03_Mod ((p0.Stops.getD (s43.2.1).toNat default).x3) 9 hy49) .nil)) (At.keep (ts := [1, 2, 3, 4, 9, 10, 11, 12, 13]) (ids := [1, 2, 3, 4, 9, 12, 13, 801, 1052]) rfl rfl ?_)
      refine At.thenC ?_
      refine W.seq ?_
      obtain ⟨y50, hy51, H⟩ := of_bindO H
      obtain ⟨hc52, H⟩ := of_must H
      obtain ⟨hc53, H⟩ := of_must H
      refine W.region env [] [⟨.int .i64 (y50), [], 0⟩] rfl rfl rfl (.cons (by decide) (.cons hc52 (.cons hc53 .nil))) (.free (c_gasolierref03_Mod ((p0.Stops.getD (s43.2.1).toNat default).x1) 40 hy51) .nil) (At.keep (ts := [1, 2, 3, 4, 9, 11, 12, 13]) (ids := [1, 2, 3, 4, 9, 12, 13, 801, 1052]) rfl rfl ?_)
      refine At.thenC ?_
      refine W.seq ?_
      refine W.region env [] [] rfl rfl rfl .nil .nil (At.keep (ts := [1, 2, 3, 4, 9, 11, 12, 13]) (ids := [1, 2, 3, 4, 9, 12, 13, 801, 1052]) rfl rfl ?_)
      refine At.thenC ?_
      refine W.seq ?_
      obtain ⟨y54, hy55, H⟩ := of_bindO H
      obtain ⟨hc56, H⟩ := of_must H
      refine W.region env [] [⟨.int .i64 (y54), [], 0⟩] rfl rfl rfl (.cons (by decide) (.cons hc56 .nil)) (.free (c_gasolierref03_Mod ((p0.Stops.getD (s43.2.1).toNat default).x2) 60 hy55) .nil) (At.keep (ts := [1, 2, 3, 4, 9, 11, 13]) (ids := [1, 2, 3, 4, 9, 13, 801, 1052]) rfl rfl ?_)
      refine At.thenC ?_
      refine W.seq ?_
      refine W.region env [] [] rfl rfl rfl .nil .nil (At.keep (ts := [1, 2, 3, 4, 9, 10, 11, 13]) (ids := [1, 2, 3, 4, 9, 13, 801, 1052]) rfl rfl ?_)
      refine At.thenC ?_
      obtain ⟨hc57, H⟩ := of_must H
      refine W.region env [] [] rfl rfl rfl (.cons (⟨by first | rfl | (simp; done) | (simp; omega), by have := hc57; first | simpa using this | (unfold room at this ⊢; simp at this ⊢; omega)⟩) .nil) .nil (At.keep (ts := [1, 2, 3, 4, 9, 10, 11]) (ids := [1, 2, 3, 4, 9, 801, 1052]) rfl rfl ?_)
      refine At.convM (.cons (.refl _) (.cons (.refl _) (.cons (.refl _) (.cons (.refl _) (.cons (.refl _) (.cons (.refl _) (.cons (y := bufL 87 4 enc_Stop (s43.2.2 ++ ([(⟨y46, (⟨(max ((s43.1 + y50) - 10) 0), ((max ((s43.1 + y50) - 10) 0) + y54)⟩ : Range), y48⟩ : Stop)] : List Stop))) (BSim.seg (Seg.push (Seg.refl enc_Stop _) (Seg.lit (f := enc_Stop) (sz := 4) ([(⟨y46, (⟨(max ((s43.1 + y50) - 10) 0), ((max ((s43.1 + y50) - 10) 0) + y54)⟩ : Range), y48⟩ : Stop)] : List Stop) rfl rfl (fun _ => rfl)))) .nil))))))) ?_
      refine At.inb ?_
      refine At.thenC ?_
      obtain ⟨hc58, H⟩ := of_must H
      refine W.region env [] [] rfl rfl rfl (.cons hc58 .nil) .nil (At.keep (ts := [1, 2, 3, 4, 9, 10, 11]) (ids := [1, 2, 3, 4, 9, 801, 1052]) rfl rfl ?_)
      refine At.thenK (At.keep (ts := [1, 2, 3, 4, 9, 10, 11]) (ids := [1, 2, 3, 4, 9, 801, 1052]) rfl rfl ?_)
      exact At.conv (.cons (.of_eq (by first | rfl | (simp; done) | (simp; omega))) (.cons (.of_eq (by first | rfl | (simp; done) | (simp; omega))) (.cons (.of_eq (by first | rfl | (simp; done) | (simp; omega))) (.cons (.of_eq (by first | rfl | (simp; done) | (simp; omega))) (.cons (.of_eq (by first | rfl | (simp; done) | (simp; omega))) (.cons (.of_eq (by first | rfl | (simp; done) | (simp; omega))) (.cons (.of_eq (by first | rfl | (simp; done) | (simp; omega))) .nil))))))) (.cons (.of_eq (by first | rfl | (simp; done) | (simp; omega))) (.cons (.of_eq (by first | rfl | (simp; done) | (simp; omega))) (.cons (.of_eq (by first | rfl | (simp; done) | (simp; omega))) (.cons (.of_eq (by first | rfl | (simp; done) | (simp; omega))) (.cons (.of_eq (by first | rfl | (simp; done) | (simp; omega))) (.cons (.of_eq (by first | rfl | (simp; done) | (simp; omega))) (.cons (.of_eq (by first | rfl | (simp; done) | (simp; omega))) .nil))))))) (hK43 ((max ((s43.1 + y50) - 10) 0), (s43.2.1 + 1), (s43.2.2 ++ ([(⟨y46, (⟨(max ((s43.1 + y50) - 10) 0), ((max ((s43.1 + y50) - 10) 0) + y54)⟩ : Range), y48⟩ : Stop)] : List Stop))) H)
    · have H := of_false H hb44
      refine W.exit ?_
      refine At.xthen ?_
      refine At.xthen ?_
      refine At.xhere ?_
      refine At.thenC ?_
      refine W.seq ?_
      refine W.region env [] [] rfl rfl rfl .nil .nil (At.keep (ts := [2, 3]) (ids := [2, 3, 801, 1052]) rfl rfl ?_)
      refine At.thenC ?_
      refine W.ret ?_
      cases H
      exact At.ret env.ty rfl rfl (fun q hq => by cases hq; exact ⟨by first | rfl | (simp; done) | (simp; omega), (by first | rfl | (simp; done) | (simp; omega))⟩) (.refl _) hval

theorem c_round_InTime (fuel : Nat) (p0 : Chart) (p1 : Round) {r : (Int × Int)} (H : round_InTime fuel p0 p1 = some r) : Ctr Try.prog 30 [.agg [.int .i64 (p0.Places), roL 7 enc_Way p0.Ways], .agg [.int .i64 (p1.Place), .int .i64 (p1.At), roL 4 enc_Stop p1.Stops]] (.tup [.int .i64 (r.1), .int .i64 (r.2)]) := by
  unfold round_InTime at H
  refine Ctr.of_body (N := 16) Try.func30 (by kernel_rfl) (c := _) rfl Try.ntmps30 rfl (fun w0 h0 hval => ?_)
  refine W.seq ?_
  refine W.region env [] [] rfl rfl rfl .nil .nil (At.keep (ts := [2, 3]) (ids := [2, 3]) rfl rfl ?_)
  refine At.thenC ?_
  refine W.seq ?_
  refine W.seq ?_
  obtain ⟨y1, hy2, H⟩ := of_bindO H
  refine W.region env [] [⟨.int .i64 (y1), [], 0⟩] rfl rfl rfl .nil (.free (c_round_CheckRound p0 p1 hy2) .nil) (At.keep (ts := [2, 3, 6]) (ids := [2, 3]) rfl rfl ?_)
  refine At.thenC ?_
  refine W.seq ?_
  refine W.region env [] [] rfl rfl rfl .nil .nil (At.keep (ts := [2, 3, 6, 11]) (ids := [2, 3]) rfl rfl ?_)
  refine At.thenC ?_
  refine W.cond rfl (fun hb3 => ?_) (fun hb3 => ?_)
  · have H := of_true H hb3
    refine W.seq ?_
    refine W.region env [] [] rfl rfl rfl .nil .nil (At.keep (ts := [4, 5]) (ids := []) rfl rfl ?_)
    refine At.thenC ?_
    refine W.ret ?_
    refine At.rthen ?_
    cases H
    exact At.ret env.ty rfl rfl (fun q hq => by cases hq) (.refl _) hval
  · have H := of_false H hb3
    refine W.skip ?_
    refine At.thenC ?_
    refine W.seq ?_
    obtain ⟨y4, hy5, H⟩ := of_bindO H
    refine W.region env [] [⟨.int .i64 (y4), [], 0⟩] rfl rfl rfl .nil (.free (c_round_inTime fuel p0 p1 hy5) .nil) (At.keep (ts := [4, 5]) (ids := []) rfl rfl ?_)
    refine At.thenC ?_
    refine W.ret ?_
    cases H
    exact At.ret env.ty rfl rfl (fun q hq => by cases hq) (.refl _) hval

theorem c_gasolierref03_Took (fuel : Nat) (p0 : Chart) (p1 : (List Int)) {r : (List Int)} (H : gasolierref03_Took fuel p0 p1 = some r) : Ctr Try.prog 21 [.agg [.int .i64 (p0.Places), roL 7 enc_Way p0.Ways], roL 1 enc_Int p1] (roL 1 enc_Int r) := by
  unfold gasolierref03_Took at H
  refine Ctr.of_body (N := 47) Try.func21 (by kernel_rfl) (c := _) rfl Try.ntmps21 rfl (fun w0 h0 hval => ?_)
  refine W.seq ?_
  refine W.region env [] [] rfl rfl rfl .nil .nil (At.keep (ts := [1, 2]) (ids := [2]) rfl rfl ?_)
  refine At.thenC ?_
  refine W.seq ?_
  refine W.region env [] [] rfl rfl rfl .nil .nil (At.keep (ts := [1, 2, 5]) (ids := [2]) rfl rfl ?_)
  refine At.thenC ?_
  refine W.seq ?_
  refine W.seq ?_
  refine W.region env [] [] rfl rfl rfl .nil .nil (At.keep (ts := [1, 2, 5, 6]) (ids := [2]) rfl rfl ?_)
  refine At.thenC ?_
  refine W.block ?_
  refine At.nilOwn 5 505 3 1 (e := fun i => enc_Int (([] : List Int).getD i default)) rfl rfl ?_
  refine At.keep (ts := [1, 2, 5, 6]) (ids := [2, 505]) rfl rfl ?_
  refine W.loopGo H (fun (s1 : Int × (List Int)) => [(1, roL 1 enc_Int p1), (2, .lp 2 0), (5, .buf 505 (s1.2).length), (6, .int .i64 (s1.1))]) (fun (s1 : Int × (List Int)) => [(2, .cells [.int .i64 (p0.Places), roL 7 enc_Way p0.Ways]), (505, bufL 3 1 enc_Int s1.2)]) (.cons (.of_eq (by first | rfl | (simp; done) | (simp; omega))) (.cons (.of_eq (by first | rfl | (simp; done) | (simp; omega))) (.cons (.of_eq (by refine bufEq ?_; first | (simp [copyAt]; done) | (simp [copyAt]; omega) | rfl)) (.cons (.of_eq (by first | rfl | (simp; done) | (simp; omega))) .nil)))) (.cons (.of_eq (by first | rfl | (simp; done) | (simp; omega))) (.cons (.of_eq (by first | rfl | (simp; done) | (simp; omega))) .nil)) (fun k1 s1 H K0 hK1 => ?_)
  refine W.seq ?_
  refine W.seq ?_
  refine W.region env [] [] rfl rfl rfl .nil .nil (At.keep (ts := [1, 2, 5, 6, 13]) (ids := [2, 505]) rfl rfl ?_)
  refine At.thenC ?_
  refine W.cond rfl (fun hb2 => ?_) (fun hb2 => ?_)
  · have H := of_true H hb2
    refine W.skip ?_
    refine At.thenC ?_
    refine W.seq ?_
    refine W.block ?_
    refine W.seq ?_
    obtain ⟨hc3, H⟩ := of_must H
    refine W.region env [] [] rfl rfl rfl (.cons hc3 .nil) .nil (At.keep (ts := [1, 2, 5, 6, 7]) (ids := [2, 7, 505]) rfl rfl ?_)
    refine At.thenC ?_
    refine W.seq ?_
    refine W.region env [] [] rfl rfl rfl .nil .nil (At.keep (ts := [1, 2, 5, 6, 7, 8]) (ids := [2, 7, 505]) rfl rfl ?_)
    refine At.thenC ?_
    refine W.seq ?_
    refine W.seq ?_
    refine W.region env [] [] rfl rfl rfl .nil .nil (At.keep (ts := [1, 2, 5, 6, 7, 8, 24]) (ids := [2, 7, 505]) rfl rfl ?_)
    refine At.thenC ?_
    refine W.joinC H (fun (s4 : Int) => [(1, roL 1 enc_Int p1), (2, .lp 2 0), (5, .buf 505 (s1.2).length), (6, .int .i64 (s1.1)), (7, .lp 7 0), (8, .int .i64 (s4))]) (fun (s4 : Int) => [(2, .cells [.int .i64 (p0.Places), roL 7 enc_Way p0.Ways]), (7, .cells [.int .i64 ((p0.Ways.getD (s1.1).toNat default).Takes.Lo), .int .i64 ((p0.Ways.getD (s1.1).toNat default).Takes.Hi)]), (505, bufL 3 1 enc_Int s1.2)]) (fun s4 H => ?_) (fun k4 H hK4 => ?_)
    · obtain ⟨hc5, H⟩ := of_must H
      obtain ⟨hc6, H⟩ := of_must H
      obtain ⟨y7, hy8, H⟩ := of_bindO H
      obtain ⟨hc9, H⟩ := of_must H
      obtain ⟨hc10, H⟩ := of_must H
      refine W.region env [] [⟨.int .i64 (y7), [], 0⟩] rfl rfl rfl (.cons hc5 (.cons hc6 (.cons hc9 (.cons (⟨by first | rfl | (simp; done) | (simp; omega), by have := hc10; first | simpa using this | (unfold room at this ⊢; simp at this ⊢; omega)⟩) .nil)))) (.free (c_gasolierref03_Mod s4 (((p0.Ways.getD (s1.1).toNat default).Takes.Hi - (p0.Ways.getD (s1.1).toNat default).Takes.Lo) + 1) hy8) .nil) (At.keep (ts := [1, 2, 5, 6]) (ids := [2, 505]) rfl rfl ?_)
      refine At.convM (.cons (.refl _) (.cons (y := bufL 3 1 enc_Int (s1.2 ++ ([((p0.Ways.getD (s1.1).toNat default).Takes.Lo + y7)] : List Int))) (BSim.seg (Seg.push (Seg.refl enc_Int _) (Seg.lit (f := enc_Int) (sz := 1) ([((p0.Ways.getD (s1.1).toNat default).Takes.Lo + y7)] : List Int) rfl rfl (fun _ => rfl)))) .nil)) ?_
      refine At.inb ?_
      refine At.thenC ?_
      obtain ⟨hc11, H⟩ := of_must H
      refine W.region env [] [] rfl rfl rfl (.cons hc11 .nil) .nil (At.keep (ts := [1, 2, 5, 6]) (ids := [2, 505]) rfl rfl ?_)
      refine At.thenK (At.keep (ts := [1, 2, 5, 6]) (ids := [2, 505]) rfl rfl ?_)
      exact At.conv (.cons (.of_eq (by first | rfl | (simp; done) | (simp; omega))) (.cons (.of_eq (by first | rfl | (simp; done) | (simp; omega))) (.cons (.of_eq (by refine bufEq ?_; first | (simp [copyAt]; done) | (simp [copyAt]; omega) | rfl)) (.cons (.of_eq (by first | rfl | (simp; done) | (simp; omega))) .nil)))) (.cons (.of_eq (by first | rfl | (simp; done) | (simp; omega))) (.cons (.of_eq (by first | rfl | (simp; done) | (simp; omega))) .nil)) (hK1 ((s1.1 + 1), (s1.2 ++ ([((p0.Ways.getD (s1.1).toNat default).Takes.Lo + y7)] : List Int))) H)
    · refine W.cond rfl (fun hb12 => ?_) (fun hb12 => ?_)
      · have H := of_true H hb12
        obtain ⟨hc13, H⟩ := of_must H
        obtain ⟨hc14, H⟩ := of_must H
        refine W.region env [] [] rfl rfl rfl (.cons hc13 (.cons hc14 .nil)) .nil (At.keep (ts := [1, 2, 5, 6, 7, 8]) (ids := [2, 7, 505]) rfl rfl ?_)
        refine At.thenK (At.keep (ts := [1, 2, 5, 6, 7, 8]) (ids := [2, 7, 505]) rfl rfl ?_)
        exact At.conv (.cons (.of_eq (by first | rfl | (simp; done) | (simp; omega))) (.cons (.of_eq (by first | rfl | (simp; done) | (simp; omega))) (.cons (.of_eq (by refine bufEq ?_; first | (simp [copyAt]; done) | (simp [copyAt]; omega) | rfl)) (.cons (.of_eq (by first | rfl | (simp; done) | (simp; omega))) (.cons (.of_eq (by first | rfl | (simp; done) | (simp; omega))) (.cons (.of_eq (by first | rfl | (simp; done) | (simp; omega))) .nil)))))) (.cons (.of_eq (by first | rfl | (simp; done) | (simp; omega))) (.cons (.of_eq (by first | rfl | (simp; done) | (simp; omega))) (.cons (.of_eq (by first | rfl | (simp; done) | (simp; omega))) .nil))) (hK4 (p1.getD ((Int.tmod s1.1 ((p1.length : Nat) : Int))).toNat default) H)
      · have H := of_false H hb12
        refine W.skip ?_
        refine At.thenK (At.keep (ts := [1, 2, 5, 6, 7, 8]) (ids := [2, 7, 505]) rfl rfl ?_)
        exact At.conv (.cons (.of_eq (by first | rfl | (simp; done) | (simp; omega))) (.cons (.of_eq (by first | rfl | (simp; done) | (simp; omega))) (.cons (.of_eq (by refine bufEq ?_; first | (simp [copyAt]; done) | (simp [copyAt]; omega) | rfl)) (.cons (.of_eq (by first | rfl | (simp; done) | (simp; omega))) (.cons (.of_eq (by first | rfl | (simp; done) | (simp; omega))) (.cons (.of_eq (by first | rfl | (simp; done) | (simp; omega))) .nil)))))) (.cons (.of_eq (by first | rfl | (simp; done) | (simp; omega))) (.cons (.of_eq (by first | rfl | (simp; done) | (simp; omega))) (.cons (.of_eq (by first | rfl | (simp; done) | (simp; omega))) .nil))) (hK4 0 H)
  · have H := of_false H hb2
    refine W.exit ?_
    refine At.xthen ?_
    refine At.xthen ?_
    refine At.xhere ?_
    refine At.thenC ?_
    refine W.seq ?_
    refine W.region env [] [] rfl rfl rfl .nil .nil (At.keep (ts := [4]) (ids := [505]) rfl rfl ?_)
    refine At.thenC ?_
    refine W.ret ?_
    cases H
    exact At.ret env.ty rfl rfl (fun q hq => by cases hq; exact (by first | rfl | (simp; done) | (simp; omega))) (.refl _) hval

theorem c_round_CheckTook (p0 : Chart) (p1 : (List Int)) {r : Int} (H : round_CheckTook p0 p1 = some r) : Ctr Try.prog 43 [.agg [.int .i64 (p0.Places), roL 7 enc_Way p0.Ways], roL 1 enc_Int p1] (.int .i64 (r)) := by
  unfold round_CheckTook at H
  refine Ctr.of_body (N := 15) Try.func43 (by kernel_rfl) (c := _) rfl Try.ntmps43 rfl (fun w0 h0 hval => ?_)
  refine W.seq ?_
  refine W.region env [] [] rfl rfl rfl .nil .nil (At.keep (ts := [1, 2]) (ids := [2]) rfl rfl ?_)
  refine At.thenC ?_
  refine W.seq ?_
  refine W.seq ?_
  obtain ⟨y1, hy2, H⟩ := of_bindO H
  refine W.region env [] [⟨.int .i64 (y1), [], 0⟩] rfl rfl rfl .nil (.free (c_round_Check p0 hy2) .nil) (At.keep (ts := [1, 2, 5]) (ids := [2]) rfl rfl ?_)
  refine At.thenC ?_
  refine W.seq ?_
  refine W.region env [] [] rfl rfl rfl .nil .nil (At.keep (ts := [1, 2, 5, 9]) (ids := [2]) rfl rfl ?_)
  refine At.thenC ?_
  refine W.cond rfl (fun hb3 => ?_) (fun hb3 => ?_)
  · have H := of_true H hb3
    refine W.seq ?_
    refine W.region env [] [] rfl rfl rfl .nil .nil (At.keep (ts := [4]) (ids := []) rfl rfl ?_)
    refine At.thenC ?_
    refine W.ret ?_
    refine At.rthen ?_
    cases H
    exact At.ret env.ty rfl rfl (fun q hq => by cases hq) (.refl _) hval
  · have H := of_false H hb3
    refine W.skip ?_
    refine At.thenC ?_
    refine W.seq ?_
    refine W.seq ?_
    obtain ⟨y4, hy5, H⟩ := of_bindO H
    refine W.region env [] [⟨.bool (y4), [], 0⟩] rfl rfl rfl .nil (.free (c_round_areTook p0 p1 hy5) .nil) (At.keep (ts := [14]) (ids := []) rfl rfl ?_)
    refine At.thenC ?_
    refine W.cond rfl (fun hb6 => ?_) (fun hb6 => ?_)
    · have H := of_true H hb6
      refine W.seq ?_
      refine W.region env [] [] rfl rfl rfl .nil .nil (At.keep (ts := [4]) (ids := []) rfl rfl ?_)
      refine At.thenC ?_
      refine W.ret ?_
      refine At.rthen ?_
      cases H
      exact At.ret env.ty rfl rfl (fun q hq => by cases hq) (.refl _) hval
    · have H := of_false H hb6
      refine W.skip ?_
      refine At.thenC ?_
      refine W.seq ?_
      refine W.region env [] [] rfl rfl rfl .nil .nil (At.keep (ts := [4]) (ids := []) rfl rfl ?_)
      refine At.thenC ?_
      refine W.ret ?_
      cases H
      exact At.ret env.ty rfl rfl (fun q hq => by cases hq) (.refl _) hval

theorem c_round_Went (fuel : Nat) (p0 : Chart) (p1 : (List Int)) (p2 : Round) {r : ((List Int) × Int)} (H : round_Went fuel p0 p1 p2 = some r) : Ctr Try.prog 41 [.agg [.int .i64 (p0.Places), roL 7 enc_Way p0.Ways], roL 1 enc_Int p1, .agg [.int .i64 (p2.Place), .int .i64 (p2.At), roL 4 enc_Stop p2.Stops]] (.tup [roL 1 enc_Int r.1, .int .i64 (r.2)]) := by
  unfold round_Went at H
  refine Ctr.of_body (N := 24) Try.func41 (by kernel_rfl) (c := _) rfl Try.ntmps41 rfl (fun w0 h0 hval => ?_)
  refine W.seq ?_
  refine W.region env [] [] rfl rfl rfl .nil .nil (At.keep (ts := [1, 3, 5]) (ids := [3, 5]) rfl rfl ?_)
  refine At.thenC ?_
  refine W.seq ?_
  refine W.seq ?_
  obtain ⟨y1, hy2, H⟩ := of_bindO H
  refine W.region env [] [⟨.int .i64 (y1), [], 0⟩] rfl rfl rfl .nil (.free (c_round_CheckTook p0 p1 hy2) .nil) (At.keep (ts := [1, 3, 5, 8]) (ids := [3, 5]) rfl rfl ?_)
  refine At.thenC ?_
  refine W.seq ?_
  refine W.region env [] [] rfl rfl rfl .nil .nil (At.keep (ts := [1, 3, 5, 8, 13]) (ids := [3, 5]) rfl rfl ?_)
  refine At.thenC ?_
  refine W.cond rfl (fun hb3 => ?_) (fun hb3 => ?_)
  · have H := of_true H hb3
    refine W.seq ?_
    refine W.region env [] [] rfl rfl rfl .nil .nil (At.keep (ts := [6, 7]) (ids := []) rfl rfl ?_)
    refine At.thenC ?_
    refine W.ret ?_
    refine At.rthen ?_
    cases H
    exact At.ret env.ty rfl rfl (fun q hq => by cases hq) (Sim.tupL (.cons (Sim.nil _ _) (.cons (.refl _) .nil))) hval
  · have H := of_false H hb3
    refine W.skip ?_
    refine At.thenC ?_
    refine W.seq ?_
    refine W.seq ?_
    obtain ⟨y4, hy5, H⟩ := of_bindO H
    refine W.region env [] [⟨.bool (y4), [], 0⟩] rfl rfl rfl .nil (.free (c_round_isRound p0 p2 hy5) .nil) (At.keep (ts := [1, 3, 5, 18]) (ids := [3, 5]) rfl rfl ?_)
    refine At.thenC ?_
    refine W.cond rfl (fun hb6 => ?_) (fun hb6 => ?_)
    · have H := of_true H hb6
      refine W.seq ?_
      refine W.region env [] [] rfl rfl rfl .nil .nil (At.keep (ts := [6, 7]) (ids := []) rfl rfl ?_)
      refine At.thenC ?_
      refine W.ret ?_
      refine At.rthen ?_
      cases H
      exact At.ret env.ty rfl rfl (fun q hq => by cases hq) (Sim.tupL (.cons (Sim.nil _ _) (.cons (.refl _) .nil))) hval
    · have H := of_false H hb6
      refine W.skip ?_
      refine At.thenC ?_
      refine W.seq ?_
      obtain ⟨y7, hy8, H⟩ := of_bindO H
      refine W.region env [] [⟨.clo (.func 117) [] [.rp [roL 1 enc_Int p1]], [], 0⟩, ⟨roL 1 enc_Int y7, [], 0⟩] rfl rfl rfl .nil (.free (c_round_truly p1) (.free (c_round_begins fuel p0 p2 (fun x0 => round_truly_1 x0 p1) 117 [] ([.rp [roL 1 enc_Int p1]]) (fun x0 r h => c_round_truly_1 x0 p1 h) hy8) .nil)) (At.keep (ts := [6, 7]) (ids := []) rfl rfl ?_)
      refine At.thenC ?_
      refine W.ret ?_
      cases H
      exact At.ret env.ty rfl rfl (fun q hq => by cases hq) (.refl _) hval

theorem c_gasolierref03_All (fuel : Nat) (p0 : (List Int)) {r : Bool} (H : gasolierref03_All fuel p0 = some r) : Ctr Try.prog 55 [roL 1 enc_Int p0] (.bool (r)) := by
  unfold gasolierref03_All at H
  refine Ctr.of_body (N := 15) Try.func55 (by kernel_rfl) (c := _) rfl Try.ntmps55 rfl (fun w0 h0 hval => ?_)
  refine W.seq ?_
  refine W.region env [] [] rfl rfl rfl .nil .nil (At.keep (ts := [0]) (ids := []) rfl rfl ?_)
  refine At.thenC ?_
  refine W.seq ?_
  refine W.seq ?_
  refine W.region env [] [] rfl rfl rfl .nil .nil (At.keep (ts := [0, 3]) (ids := []) rfl rfl ?_)
  refine At.thenC ?_
  refine W.block ?_
  refine At.keep (ts := [0, 3]) (ids := []) rfl rfl ?_
  refine W.loopGo H (fun (s1 : Int) => [(0, roL 1 enc_Int p0), (3, .int .i64 (s1))]) (fun (s1 : Int) => []) (.cons (.of_eq (by first | rfl | (simp; done) | (simp; omega))) (.cons (.of_eq (by first | rfl | (simp; done) | (simp; omega))) .nil)) .nil (fun k1 s1 H K0 hK1 => ?_)
  refine W.seq ?_
  refine W.seq ?_
  refine W.region env [] [] rfl rfl rfl .nil .nil (At.keep (ts := [0, 3, 7]) (ids := []) rfl rfl ?_)
  refine At.thenC ?_
  refine W.cond rfl (fun hb2 => ?_) (fun hb2 => ?_)
  · have H := of_true H hb2
    refine W.skip ?_
    refine At.thenC ?_
    refine W.seq ?_
    refine W.block ?_
    refine W.seq ?_
    obtain ⟨hc3, H⟩ := of_must H
    refine W.region env [] [] rfl rfl rfl (.cons hc3 .nil) .nil (At.keep (ts := [0, 3, 14]) (ids := []) rfl rfl ?_)
    refine At.thenC ?_
    refine W.cond rfl (fun hb4 => ?_) (fun hb4 => ?_)
    · have H := of_true H hb4
      refine W.seq ?_
      refine W.region env [] [] rfl rfl rfl .nil .nil (At.keep (ts := [2]) (ids := []) rfl rfl ?_)
      refine At.thenC ?_
      refine W.ret ?_
      refine At.rinb ?_
      refine At.rthen ?_
      refine At.rthen ?_
      refine At.rinb ?_
      refine At.rthen ?_
      cases H
      exact At.ret env.ty rfl rfl (fun q hq => by cases hq) (.refl _) hval
    · have H := of_false H hb4
      refine W.skip ?_
      refine At.inb ?_
      refine At.thenC ?_
      obtain ⟨hc5, H⟩ := of_must H
      refine W.region env [] [] rfl rfl rfl (.cons hc5 .nil) .nil (At.keep (ts := [0, 3]) (ids := []) rfl rfl ?_)
      refine At.thenK (At.keep (ts := [0, 3]) (ids := []) rfl rfl ?_)
      exact At.conv (.cons (.of_eq (by first | rfl | (simp; done) | (simp; omega))) (.cons (.of_eq (by first | rfl | (simp; done) | (simp; omega))) .nil)) .nil (hK1 (s1 + 1) H)
  · have H := of_false H hb2
    refine W.exit ?_
    refine At.xthen ?_
    refine At.xthen ?_
    refine At.xhere ?_
    refine At.thenC ?_
    refine W.seq ?_
    refine W.region env [] [] rfl rfl rfl .nil .nil (At.keep (ts := [2]) (ids := []) rfl rfl ?_)
    refine At.thenC ?_
    refine W.ret ?_
    cases H
    exact At.ret env.ty rfl rfl (fun q hq => by cases hq) (.refl _) hval

theorem c_gasolierref03_In (p0 : Int) (p1 : Int) (p2 : Int) : Ctr Try.prog 56 [.int .i64 (p0), .int .i64 (p1), .int .i64 (p2)] (.bool ((gasolierref03_In p0 p1 p2))) := by
  obtain ⟨r, H⟩ : ∃ r, gasolierref03_In p0 p1 p2 = r := ⟨_, rfl⟩
  rw [H]
  unfold gasolierref03_In at H
  refine Ctr.of_body (N := 15) Try.func56 (by kernel_rfl) (c := _) rfl Try.ntmps56 rfl (fun w0 h0 hval => ?_)
  refine W.seq ?_
  refine W.region env [] [] rfl rfl rfl .nil .nil (At.keep (ts := [0, 1, 2]) (ids := []) rfl rfl ?_)
  refine At.thenC ?_
  refine W.seq ?_
  refine W.region env [] [] rfl rfl rfl (.cons (fun h => h) (.cons (fun h => h) (.cons (fun h => h) .nil))) .nil (At.keep (ts := [6]) (ids := []) rfl rfl ?_)
  refine At.thenC ?_
  refine W.ret ?_
  cases H
  exact At.ret env.ty rfl rfl (fun q hq => by cases hq) (.refl _) hval

theorem c_gasolierlaw03_RoundTrue (fuel : Nat) (p0 : gasolierref03_Raw) (p1 : (List Int)) {r : Bool} (H : gasolierlaw03_RoundTrue fuel p0 p1 = some r) : Ctr Try.prog 13 [.agg [.int .i64 (p0.Places), roL 7 enc_Arr7Int p0.Ways, .int .i64 (p0.Round.x0), .int .i64 (p0.Round.x1), roL 4 enc_Arr4Int p0.Stops], roL 1 enc_Int p1] (.bool (r)) := by
  unfold gasolierlaw03_RoundTrue at H
  refine Ctr.of_body (N := 218) Try.func13 (by kernel_rfl) (c := _) rfl Try.ntmps13 rfl (fun w0 h0 hval => ?_)
  refine W.seq ?_
  refine W.region env [] [] rfl rfl rfl .nil .nil (At.keep (ts := [1, 2]) (ids := [2]) rfl rfl ?_)
  refine At.thenC ?_
  refine W.seq ?_
  obtain ⟨y1, hy2, H⟩ := of_bindO H
  refine W.region env [] [⟨.bool (y1), [], 0⟩] rfl rfl rfl .nil (.free (c_gasolierlaw03_sane fuel hy2) .nil) (At.keep (ts := [1, 2, 5]) (ids := [2]) rfl rfl ?_)
  refine At.thenC ?_
  refine W.seq ?_
  obtain ⟨y3, hy4, H⟩ := of_bindO H
  refine W.region env [] [⟨.tup [.agg [.int .i64 (y3.1.Places), roL 7 enc_Way y3.1.Ways], .agg [.int .i64 (y3.2.Place), .int .i64 (y3.2.At), roL 4 enc_Stop y3.2.Stops]], [], 0⟩] rfl rfl rfl .nil (.free (c_gasolierref03_Made fuel p0 hy4) .nil) (At.keep (ts := [1, 5, 6, 7]) (ids := [6, 7]) rfl rfl ?_)
  refine At.thenC ?_
  refine W.seq ?_
  obtain ⟨y5, hy6, H⟩ := of_bindO H
  refine W.region env [] [⟨.tup [.int .i64 (y5.1), .int .i64 (y5.2)], [], 0⟩] rfl rfl rfl .nil (.free (c_round_InTime fuel y3.1 y3.2 hy6) .nil) (At.keep (ts := [1, 5, 6, 7, 8, 9]) (ids := [6, 7]) rfl rfl ?_)
  refine At.thenC ?_
  refine W.seq ?_
  obtain ⟨y7, hy8, H⟩ := of_bindO H
  refine W.region env [] [⟨.tup [roL 1 enc_Int y7.1, .int .i64 (y7.2)], [], 0⟩] rfl rfl rfl .nil (.free (c_round_Begins fuel y3.1 y3.2 hy8) .nil) (At.keep (ts := [1, 5, 6, 7, 8, 9, 10, 11]) (ids := [6, 7]) rfl rfl ?_)
  refine At.thenC ?_
  refine W.seq ?_
  obtain ⟨y9, hy10, H⟩ := of_bindO H
  obtain ⟨y11, hy12, H⟩ := of_bindO H
  refine W.region env [] [⟨roL 1 enc_Int y9, [], 0⟩, ⟨.tup [roL 1 enc_Int y11.1, .int .i64 (y11.2)], [], 0⟩] rfl rfl rfl .nil (.free (c_gasolierref03_Took fuel y3.1 p1 hy10) (.free (c_round_Went fuel y3.1 y9 y3.2 hy12) .nil)) (At.keep (ts := [5, 6, 7, 8, 9, 10, 11, 12, 13]) (ids := [6, 7]) rfl rfl ?_)
  refine At.thenC ?_
  refine W.seq ?_
  obtain ⟨y13, hy14, H⟩ := of_bindO H
  refine W.region env [] [⟨.tup [.int .i64 (y13.1), .int .i64 (y13.2)], [], 0⟩] rfl rfl rfl .nil (.free (c_round_Slack fuel y3.1 y3.2 hy14) .nil) (At.keep (ts := [5, 6, 7, 8, 9, 10, 11, 12, 13, 14, 15]) (ids := [6, 7]) rfl rfl ?_)
  refine At.thenC ?_
  refine W.seq ?_
  refine W.seq ?_
  obtain ⟨y15, hy16, H⟩ := of_bindO H
  refine W.region env [] [⟨.bool (y15), [], 0⟩] rfl rfl rfl (.cons (fun h => h) (.cons (fun h => by rw [h]; rfl) (.cons (fun h => h) (.cons (fun h => by rw [h]; rfl) (.cons (fun h => h) (.cons (fun h => by rw [h]; rfl) (.cons (fun h => h) (.cons (fun h => h) (.cons (fun h => h) (.cons (fun h => h) (.cons (fun h => h) (.cons (fun h => by rw [h]; rfl) (.cons (fun h => h) (.cons (fun h => h) (.cons (fun h => h) (.cons (fun h => h) (.cons (fun h => h) (.cons (fun h => by rw [h]; rfl) (.cons (fun h => h) (.cons (fun h => h) (.cons (fun h => h) (.cons (fun h => h) (.cons (fun h => by rw [h]; rfl) (.cons (fun h => h) (.cons (fun h => h) (.cons (fun h => h) (.cons (fun h => h) (.cons (fun h => by rw [h]; rfl) .nil)))))))))))))))))))))))))))) (.on (fun hW => c_gasolierref03_All fuel y7.1 (of_true hy16 hW)) .nil) (At.keep (ts := [6, 7, 8, 10, 12, 14, 15, 98]) (ids := [6, 7]) rfl rfl ?_)
  refine At.thenC ?_
  refine W.cond rfl (fun hb17 => ?_) (fun hb17 => ?_)
  · have H := of_true H hb17
    refine W.seq ?_
    refine W.region env [] [] rfl rfl rfl .nil .nil (At.keep (ts := [4]) (ids := []) rfl rfl ?_)
    refine At.thenC ?_
    refine W.ret ?_
    refine At.rthen ?_
    cases H
    exact At.ret env.ty rfl rfl (fun q hq => by cases hq) (.refl _) hval
  · have H := of_false H hb17
    refine W.skip ?_
    refine At.thenC ?_
    refine W.seq ?_
    refine W.seq ?_
    refine W.region env [] [] rfl rfl rfl .nil .nil (At.keep (ts := [6, 7, 8, 10, 12, 14, 15, 16]) (ids := [6, 7]) rfl rfl ?_)
    refine At.thenC ?_
    refine W.block ?_
    refine At.keep (ts := [6, 7, 8, 10, 12, 14, 15, 16]) (ids := [6, 7]) rfl rfl ?_
    refine W.loopGo H (fun (s18 : Int) => [(6, .lp 6 0), (7, .lp 7 0), (8, .int .i64 (y5.1)), (10, roL 1 enc_Int y7.1), (12, roL 1 enc_Int y11.1), (14, .int .i64 (y13.1)), (15, .int .i64 (y13.2)), (16, .int .i64 (s18))]) (fun (s18 : Int) => [(6, .cells [.int .i64 (y3.1.Places), roL 7 enc_Way y3.1.Ways]), (7, .cells [.int .i64 (y3.2.Place), .int .i64 (y3.2.At), roL 4 enc_Stop y3.2.Stops])]) (.cons (.of_eq (by first | rfl | (simp; done) | (simp; omega))) (.cons (.of_eq (by first | rfl | (simp; done) | (simp; omega))) (.cons (.of_eq (by first | rfl | (simp; done) | (simp; omega))) (.cons (.of_eq (by first | rfl | (simp; done) | (simp; omega))) (.cons (.of_eq (by first | rfl | (simp; done) | (simp; omega))) (.cons (.of_eq (by first | rfl | (simp; done) | (simp; omega))) (.cons (.of_eq (by first | rfl | (simp; done) | (simp; omega))) (.cons (.of_eq (by first | rfl | (simp; done) | (simp; omega))) .nil)))))))) (.cons (.of_eq (by first | rfl | (simp; done) | (simp; omega))) (.cons (.of_eq (by first | rfl | (simp; done) | (simp; omega))) .nil)) (fun k18 s18 H K0 hK18 => ?_)
    refine W.seq ?_
    refine W.seq ?_
    refine W.region env [] [] rfl rfl rfl .nil .nil (At.keep (ts := [6, 7, 8, 10, 12, 14, 15, 16, 102]) (ids := [6, 7]) rfl rfl ?_)
    refine At.thenC ?_
    refine W.cond rfl (fun hb19 => ?_) (fun hb19 => ?_)
    · have H := of_true H hb19
      refine W.skip ?_
      refine At.thenC ?_
      refine W.seq ?_
      refine W.block ?_
      refine W.seq ?_
      obtain ⟨hc20, H⟩ := of_must H
      refine W.region env [] [] rfl rfl rfl (.cons hc20 .nil) .nil (At.keep (ts := [6, 7, 8, 10, 12, 14, 15, 16, 17]) (ids := [6, 7, 17]) rfl rfl ?_)
      refine At.thenC ?_
      refine W.seq ?_
      obtain ⟨hc21, H⟩ := of_must H
      obtain ⟨hc22, H⟩ := of_must H
      obtain ⟨hc23, H⟩ := of_must H
      obtain ⟨hc24, H⟩ := of_must H
      obtain ⟨hc25, H⟩ := of_must H
      obtain ⟨hc26, H⟩ := of_must H
      refine W.region env [] [⟨.bool ((gasolierref03_In (y11.1.getD (s18).toNat default) ((y3.2.Stops.getD (s18).toNat default).Window.Lo) ((y3.2.Stops.getD (s18).toNat default).Window.Hi))), [], 0⟩] rfl rfl rfl (.cons hc21 (.cons hc22 (.cons (fun h => h) (.cons (fun h => h) (.cons (fun h => h) (.cons (fun h => h) (.cons (fun h => h) (.cons (fun h => h) (.cons (fun h => h) (.cons (fun h => h) (.cons (fun h => h) (.cons (fun h => h) (.cons (fun h => h) (.cons (fun h => h) (.cons hc23 (.cons (fun h => h) (.cons (fun h => h) (.cons (fun h => h) (.cons (fun h => h) (.cons (fun h => h) (.cons hc24 (.cons (fun h => h) (.cons (fun h => h) (.cons (fun h => h) (.cons (fun h => h) (.cons (fun h => h) (.cons hc25 (.cons (fun h => h) (.cons (fun h => h) (.cons (fun h => h) (.cons hc26 (.cons (fun h => h) (.cons (fun h => h) (.cons (fun h => h) (.cons (fun h => h) (.cons (fun h => h) (.cons (fun h => h) (.cons (fun hW h => by revert hW h; first | (simp +contextual; done) | grind) (.cons (fun h => h) (.cons (fun hW h => by revert hW h; first | (simp +contextual; done) | grind) (.cons (fun h => by rw [h]; rfl) .nil))))))))))))))))))))))))))))))))))))))))) (.on (fun hW => c_gasolierref03_In (y11.1.getD (s18).toNat default) ((y3.2.Stops.getD (s18).toNat default).Window.Lo) ((y3.2.Stops.getD (s18).toNat default).Window.Hi)) .nil) (At.keep (ts := [6, 7, 8, 10, 12, 14, 15, 16, 153]) (ids := [6, 7]) rfl rfl ?_)
      refine At.thenC ?_
      refine W.cond rfl (fun hb27 => ?_) (fun hb27 => ?_)
      · have H := of_true H hb27
        refine W.seq ?_
        refine W.region env [] [] rfl rfl rfl .nil .nil (At.keep (ts := [4]) (ids := []) rfl rfl ?_)
        refine At.thenC ?_
        refine W.ret ?_
        refine At.rinb ?_
        refine At.rthen ?_
        refine At.rthen ?_
        refine At.rinb ?_
        refine At.rthen ?_
        cases H
        exact At.ret env.ty rfl rfl (fun q hq => by cases hq) (.refl _) hval
      · have H := of_false H hb27
        refine W.skip ?_
        refine At.inb ?_
        refine At.thenC ?_
        obtain ⟨hc28, H⟩ := of_must H
        refine W.region env [] [] rfl rfl rfl (.cons hc28 .nil) .nil (At.keep (ts := [6, 7, 8, 10, 12, 14, 15, 16]) (ids := [6, 7]) rfl rfl ?_)
        refine At.thenK (At.keep (ts := [6, 7, 8, 10, 12, 14, 15, 16]) (ids := [6, 7]) rfl rfl ?_)
        exact At.conv (.cons (.of_eq (by first | rfl | (simp; done) | (simp; omega))) (.cons (.of_eq (by first | rfl | (simp; done) | (simp; omega))) (.cons (.of_eq (by first | rfl | (simp; done) | (simp; omega))) (.cons (.of_eq (by first | rfl | (simp; done) | (simp; omega))) (.cons (.of_eq (by first | rfl | (simp; done) | (simp; omega))) (.cons (.of_eq (by first | rfl | (simp; done) | (simp; omega))) (.cons (.of_eq (by first | rfl | (simp; done) | (simp; omega))) (.cons (.of_eq (by first | rfl | (simp; done) | (simp; omega))) .nil)))))))) (.cons (.of_eq (by first | rfl | (simp; done) | (simp; omega))) (.cons (.of_eq (by first | rfl | (simp; done) | (simp; omega))) .nil)) (hK18 (s18 + 1) H)
    · have H := of_false H hb19
      refine W.exit ?_
      refine At.xthen ?_
      refine At.xthen ?_
      refine At.xhere ?_
      refine At.thenC ?_
      refine W.seq ?_
      refine W.seq ?_
      obtain ⟨y29, hy30, H⟩ := of_bindO H
      obtain ⟨y31, hy32, H⟩ := of_bindO H
      refine W.region env [] [⟨.bool (y29), [], 0⟩, ⟨.bool (y31), [], 0⟩] rfl rfl rfl (.cons (fun h => h) (.cons (fun h => h) (.cons (fun h => h) (.cons (fun h => h) (.cons (fun h => h) (.cons (fun h => h) (.cons (fun hW h => by revert hW h; first | (simp +contextual; done) | grind) (.cons (fun h => by rw [h]; rfl) .nil)))))))) (.on (fun hW => c_gasolierref03_All fuel y11.1 (of_true hy30 hW)) (.on (fun hW => c_gasolierref03_All fuel y7.1 (of_true hy32 hW)) .nil)) (At.keep (ts := [6, 7, 8, 14, 15, 167]) (ids := [6, 7]) rfl rfl ?_)
      refine At.thenC ?_
      refine W.cond rfl (fun hb33 => ?_) (fun hb33 => ?_)
      · have H := of_true H hb33
        refine W.seq ?_
        refine W.region env [] [] rfl rfl rfl .nil .nil (At.keep (ts := [4]) (ids := []) rfl rfl ?_)
        refine At.thenC ?_
        refine W.ret ?_
        refine At.rthen ?_
        cases H
        exact At.ret env.ty rfl rfl (fun q hq => by cases hq) (.refl _) hval
      · have H := of_false H hb33
        refine W.skip ?_
        refine At.thenC ?_
        refine W.seq ?_
        refine W.seq ?_
        refine W.region env [] [] rfl rfl rfl .nil .nil (At.keep (ts := [6, 7, 14, 15, 169]) (ids := [6, 7]) rfl rfl ?_)
        refine At.thenC ?_
        refine W.cond rfl (fun hb34 => ?_) (fun hb34 => ?_)
        · have H := of_true H hb34
          refine W.seq ?_
          refine W.region env [] [] rfl rfl rfl .nil .nil (At.keep (ts := [4]) (ids := []) rfl rfl ?_)
          refine At.thenC ?_
          refine W.ret ?_
          refine At.rthen ?_
          cases H
          exact At.ret env.ty rfl rfl (fun q hq => by cases hq) (.refl _) hval
        · have H := of_false H hb34
          refine W.skip ?_
          refine At.thenC ?_
          refine W.seq ?_
          obtain ⟨hc35, H⟩ := of_must H
          obtain ⟨y36, hy37, H⟩ := of_bindO H
          refine W.region env [] [⟨.tup [.int .i64 (y36.1), .int .i64 (y36.2)], [], 0⟩] rfl rfl rfl (.cons hc35 .nil) (.free (c_round_InTime fuel y3.1 (⟨y3.2.Place, (y3.2.At + y13.1), y3.2.Stops⟩ : Round) hy37) .nil) (At.keep (ts := [6, 7, 14, 18, 19]) (ids := [6, 7]) rfl rfl ?_)
          refine At.thenC ?_
          refine W.seq ?_
          refine W.seq ?_
          refine W.region env [] [] rfl rfl rfl (.cons (fun h => h) (.cons (fun h => by rw [h]; rfl) .nil)) .nil (At.keep (ts := [6, 7, 14, 191]) (ids := [6, 7]) rfl rfl ?_)
          refine At.thenC ?_
          refine W.cond rfl (fun hb38 => ?_) (fun hb38 => ?_)
          · have H := of_true H hb38
            refine W.seq ?_
            refine W.region env [] [] rfl rfl rfl .nil .nil (At.keep (ts := [4]) (ids := []) rfl rfl ?_)
            refine At.thenC ?_
            refine W.ret ?_
            refine At.rthen ?_
            cases H
            exact At.ret env.ty rfl rfl (fun q hq => by cases hq) (.refl _) hval
          · have H := of_false H hb38
            refine W.skip ?_
            refine At.thenC ?_
            refine W.seq ?_
            refine W.seq ?_
            obtain ⟨hc39, H⟩ := of_must H
            refine W.region env [] [] rfl rfl rfl (.cons hc39 .nil) .nil (At.keep (ts := [6, 7, 14, 196]) (ids := [6, 7]) rfl rfl ?_)
            refine At.thenC ?_
            refine W.cond rfl (fun hb40 => ?_) (fun hb40 => ?_)
            · have H := of_true H hb40
              refine W.seq ?_
              refine W.region env [] [] rfl rfl rfl .nil .nil (At.keep (ts := [4]) (ids := []) rfl rfl ?_)
              refine At.thenC ?_
              refine W.ret ?_
              refine At.rthen ?_
              cases H
              exact At.ret env.ty rfl rfl (fun q hq => by cases hq) (.refl _) hval
            · have H := of_false H hb40
              refine W.skip ?_
              refine At.thenC ?_
              refine W.seq ?_
              obtain ⟨hc41, H⟩ := of_must H
              obtain ⟨hc42, H⟩ := of_must H
              obtain ⟨y43, hy44, H⟩ := of_bindO H
              refine W.region env [] [⟨.tup [.int .i64 (y43.1), .int .i64 (y43.2)], [], 0⟩] rfl rfl rfl (.cons hc41 (.cons hc42 .nil)) (.free (c_round_InTime fuel y3.1 (⟨y3.2.Place, ((y3.2.At + y13.1) + 1), y3.2.Stops⟩ : Round) hy44) .nil) (At.keep (ts := [20, 21]) (ids := []) rfl rfl ?_)
              refine At.thenC ?_
              refine W.seq ?_
              refine W.region env [] [] rfl rfl rfl (.cons (fun h => h) (.cons (fun h => h) .nil)) .nil (At.keep (ts := [4]) (ids := []) rfl rfl ?_)
              refine At.thenC ?_
              refine W.ret ?_
              cases H
              exact At.ret env.ty rfl rfl (fun q hq => by cases hq) (.refl _) hval

end Go.Sp
