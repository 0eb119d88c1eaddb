/- Printed by gen.py: contracts, part 2. -/
import Derived.Test.YtjeolkdhicmhgaaCtr1
set_option linter.all false
set_option maxRecDepth 100000
namespace Go.Sp
open Go Go.Av Go.Proofs

theorem c_gasolierref03_Made (fuel : Nat) (p0 : gasolierref03_Raw) {r : (Chart × Round)} (H : gasolierref03_Made fuel p0 = some r) : Ctr Try.prog 20 [.agg [.int .i64 (p0.Places), roL 7 enc_Arr7Int p0.Ways, .int .i64 (p0.Round.x0), .int .i64 (p0.Round.x1), roL 4 enc_Arr4Int p0.Stops]] (.tup [.agg [.int .i64 (r.1.Places), roL 7 enc_Way r.1.Ways], .agg [.int .i64 (r.2.Place), .int .i64 (r.2.At), roL 4 enc_Stop r.2.Stops]]) := by
  unfold gasolierref03_Made at H
  refine Ctr.of_body (N := 176) Try.func20 (by kernel_rfl) (c := _) rfl Try.ntmps20 rfl (fun w0 h0 hval => ?_)
  refine W.seq ?_
  refine W.region env [] [] rfl rfl rfl .nil .nil (At.keep (ts := [1, 2, 3]) (ids := [1, 2, 3]) rfl rfl ?_)
  refine At.thenC ?_
  refine W.seq ?_
  obtain ⟨y1, hy2, H⟩ := of_bindO H
  obtain ⟨hc3, H⟩ := of_must H
  refine W.region env [] [⟨.int .i64 (y1), [], 0⟩] rfl rfl rfl (.cons hc3 .nil) (.free (c_gasolierref03_Mod p0.Places 5 hy2) .nil) (At.keep (ts := [1, 2, 3, 4]) (ids := [1, 2, 3, 4]) rfl rfl ?_)
  refine At.thenC ?_
  refine W.seq ?_
  refine W.seq ?_
  refine W.region env [] [] rfl rfl rfl .nil .nil (At.keep (ts := [1, 2, 3, 4, 5]) (ids := [1, 2, 3, 4]) rfl rfl ?_)
  refine At.thenC ?_
  refine W.block ?_
  refine At.nilOwnCell 4 1 801 53 7 (e := fun i => enc_Way (([] : List Way).getD i default)) rfl rfl rfl ?_
  refine At.keep (ts := [1, 2, 3, 4, 5]) (ids := [1, 2, 3, 4, 801]) rfl rfl ?_
  refine W.loopGo H (fun (s4 : Int × (List Way)) => [(1, .lp 1 0), (2, .lp 2 0), (3, .lp 3 0), (4, .lp 4 0), (5, .int .i64 (s4.1))]) (fun (s4 : Int × (List Way)) => [(1, .cells [.int .i64 (p0.Places), roL 7 enc_Arr7Int p0.Ways, .int .i64 (p0.Round.x0), .int .i64 (p0.Round.x1), roL 4 enc_Arr4Int p0.Stops]), (2, .cells [.int .i64 (0), .nilS]), (3, .cells [.int .i64 (0), .int .i64 (0), .nilS]), (4, .cells [.int .i64 ((2 + y1)), .buf 801 (s4.2).length]), (801, bufL 53 7 enc_Way s4.2)]) (.cons (.of_eq (by first | rfl | (simp; done) | (simp; omega))) (.cons (.of_eq (by first | rfl | (simp; done) | (simp; omega))) (.cons (.of_eq (by first | rfl | (simp; done) | (simp; omega))) (.cons (.of_eq (by first | rfl | (simp; done) | (simp; omega))) (.cons (.of_eq (by first | rfl | (simp; done) | (simp; omega))) .nil))))) (.cons (.of_eq (by first | rfl | (simp; done) | (simp; omega))) (.cons (.of_eq (by first | rfl | (simp; done) | (simp; omega))) (.cons (.of_eq (by first | rfl | (simp; done) | (simp; omega))) (.cons (.of_eq (by first | rfl | (simp; done) | (simp; omega))) (.cons (.of_eq (by first | rfl | (simp; done) | (simp; omega))) .nil))))) (fun k4 s4 H K0 hK4 => ?_)
  refine W.seq ?_
  refine W.seq ?_
  refine W.region env [] [] rfl rfl rfl (.cons (fun h => h) (.cons (fun h => h) .nil)) .nil (At.keep (ts := [1, 2, 3, 4, 5, 27]) (ids := [1, 2, 3, 4, 801]) rfl rfl ?_)
  refine At.thenC ?_
  refine W.cond rfl (fun hb5 => ?_) (fun hb5 => ?_)
  · have H := of_true H hb5
    refine W.skip ?_
    refine At.thenC ?_
    refine W.seq ?_
    refine W.block ?_
    refine W.seq ?_
    obtain ⟨hc6, H⟩ := of_must H
    refine W.region env [] [] rfl rfl rfl (.cons hc6 .nil) .nil (At.keep (ts := [1, 2, 3, 4, 5, 6]) (ids := [1, 2, 3, 4, 6, 801]) rfl rfl ?_)
    refine At.thenC ?_
    refine W.seq ?_
    obtain ⟨y7, hy8, H⟩ := of_bindO H
    refine W.region env [] [⟨.int .i64 (y7), [], 0⟩] rfl rfl rfl (.cons (by decide) .nil) (.free (c_gasolierref03_Mod ((p0.Ways.getD (s4.1).toNat default).x0) (2 + y1) hy8) .nil) (At.keep (ts := [1, 2, 3, 4, 5, 6, 7]) (ids := [1, 2, 3, 4, 6, 801]) rfl rfl ?_)
    refine At.thenC ?_
    refine W.seq ?_
    obtain ⟨hc9, H⟩ := of_must H
    obtain ⟨hc10, H⟩ := of_must H
    obtain ⟨y11, hy12, H⟩ := of_bindO H
    obtain ⟨hc13, H⟩ := of_must H
    obtain ⟨hc14, H⟩ := of_must H
    refine W.region env [] [⟨.int .i64 (y11), [], 0⟩] rfl rfl rfl (.cons hc9 (.cons (by decide) (.cons hc10 (.cons hc13 (.cons hc14 .nil))))) (.free (c_gasolierref03_Mod ((p0.Ways.getD (s4.1).toNat default).x1) ((2 + y1) - 1) hy12) .nil) (At.keep (ts := [1, 2, 3, 4, 5, 6, 8]) (ids := [1, 2, 3, 4, 6, 8, 801]) rfl rfl ?_)
    refine At.thenC ?_
    refine W.seq ?_
    obtain ⟨y15, hy16, H⟩ := of_bindO H
    obtain ⟨hc17, H⟩ := of_must H
    refine W.region env [] [⟨.int .i64 (y15), [], 0⟩] rfl rfl rfl (.cons (by decide) (.cons hc17 .nil)) (.free (c_gasolierref03_Mod ((p0.Ways.getD (s4.1).toNat default).x2) 20 hy16) .nil) (At.keep (ts := [1, 2, 3, 4, 5, 6, 8]) (ids := [1, 2, 3, 4, 6, 8, 801]) rfl rfl ?_)
    refine At.thenC ?_
    refine W.seq ?_
    obtain ⟨y18, hy19, H⟩ := of_bindO H
    obtain ⟨hc20, H⟩ := of_must H
    refine W.region env [] [⟨.int .i64 (y18), [], 0⟩] rfl rfl rfl (.cons (by decide) (.cons hc20 .nil)) (.free (c_gasolierref03_Mod ((p0.Ways.getD (s4.1).toNat default).x3) 12 hy19) .nil) (At.keep (ts := [1, 2, 3, 4, 5, 6, 8]) (ids := [1, 2, 3, 4, 6, 8, 801]) rfl rfl ?_)
    refine At.thenC ?_
    refine W.seq ?_
    refine W.region env [] [] rfl rfl rfl .nil .nil (At.keep (ts := [1, 2, 3, 4, 5, 6, 8]) (ids := [1, 2, 3, 4, 6, 8, 801]) rfl rfl ?_)
    refine At.thenC ?_
    refine W.seq ?_
    refine W.seq ?_
    obtain ⟨y21, hy22, H⟩ := of_bindO H
    refine W.region env [] [⟨.int .i64 (y21), [], 0⟩] rfl rfl rfl (.cons (by decide) .nil) (.free (c_gasolierref03_Mod ((p0.Ways.getD (s4.1).toNat default).x4) 3 hy22) .nil) (At.keep (ts := [1, 2, 3, 4, 5, 6, 8, 74]) (ids := [1, 2, 3, 4, 6, 8, 801]) rfl rfl ?_)
    refine At.thenC ?_
    refine W.joinC H (fun (s23 : Way) => [(1, .lp 1 0), (2, .lp 2 0), (3, .lp 3 0), (4, .lp 4 0), (5, .int .i64 (s4.1)), (6, .lp 6 0), (8, .lp 8 0)]) (fun (s23 : Way) => [(1, .cells [.int .i64 (p0.Places), roL 7 enc_Arr7Int p0.Ways, .int .i64 (p0.Round.x0), .int .i64 (p0.Round.x1), roL 4 enc_Arr4Int p0.Stops]), (2, .cells [.int .i64 (0), .nilS]), (3, .cells [.int .i64 (0), .int .i64 (0), .nilS]), (4, .cells [.int .i64 ((2 + y1)), .buf 801 (s4.2).length]), (6, .cells [.int .i64 ((p0.Ways.getD (s4.1).toNat default).x0), .int .i64 ((p0.Ways.getD (s4.1).toNat default).x1), .int .i64 ((p0.Ways.getD (s4.1).toNat default).x2), .int .i64 ((p0.Ways.getD (s4.1).toNat default).x3), .int .i64 ((p0.Ways.getD (s4.1).toNat default).x4), .int .i64 ((p0.Ways.getD (s4.1).toNat default).x5), .int .i64 ((p0.Ways.getD (s4.1).toNat default).x6)]), (8, .cells [.int .i64 (s23.From), .int .i64 (s23.To), .int .i64 (s23.Takes.Lo), .int .i64 (s23.Takes.Hi), .int .i64 (s23.Open.Lo), .int .i64 (s23.Open.Hi), .int .i64 (s23.Every)]), (801, bufL 53 7 enc_Way s4.2)]) (fun s23 H => ?_) (fun k23 H hK23 => ?_)
    · refine W.seq ?_
      refine W.seq ?_
      obtain ⟨y24, hy25, H⟩ := of_bindO H
      refine W.region env [] [⟨.int .i64 (y24), [], 0⟩] rfl rfl rfl (.cons (by decide) .nil) (.free (c_gasolierref03_Mod ((p0.Ways.getD (s4.1).toNat default).x4) 3 hy25) .nil) (At.keep (ts := [1, 2, 3, 4, 5, 6, 8, 92]) (ids := [1, 2, 3, 4, 6, 8, 801]) rfl rfl ?_)
      refine At.thenC ?_
      refine W.joinC H (fun (s26 : Way) => [(1, .lp 1 0), (2, .lp 2 0), (3, .lp 3 0), (4, .lp 4 0), (5, .int .i64 (s4.1)), (8, .lp 8 0)]) (fun (s26 : Way) => [(1, .cells [.int .i64 (p0.Places), roL 7 enc_Arr7Int p0.Ways, .int .i64 (p0.Round.x0), .int .i64 (p0.Round.x1), roL 4 enc_Arr4Int p0.Stops]), (2, .cells [.int .i64 (0), .nilS]), (3, .cells [.int .i64 (0), .int .i64 (0), .nilS]), (4, .cells [.int .i64 ((2 + y1)), .buf 801 (s4.2).length]), (8, .cells [.int .i64 (s26.From), .int .i64 (s26.To), .int .i64 (s26.Takes.Lo), .int .i64 (s26.Takes.Hi), .int .i64 (s26.Open.Lo), .int .i64 (s26.Open.Hi), .int .i64 (s26.Every)]), (801, bufL 53 7 enc_Way s4.2)]) (fun s26 H => ?_) (fun k26 H hK26 => ?_)
      · obtain ⟨hc27, H⟩ := of_must H
        refine W.region env [] [] rfl rfl rfl (.cons (⟨by first | rfl | (simp; done) | (simp; omega), by have := hc27; first | simpa using this | (unfold room at this ⊢; simp at this ⊢; omega)⟩) .nil) .nil (At.keep (ts := [1, 2, 3, 4, 5]) (ids := [1, 2, 3, 4, 801]) rfl rfl ?_)
        refine At.convM (.cons (.refl _) (.cons (.refl _) (.cons (.refl _) (.cons (.refl _) (.cons (y := bufL 53 7 enc_Way (s4.2 ++ ([s26] : List Way))) (BSim.seg (Seg.push (Seg.refl enc_Way _) (Seg.lit (f := enc_Way) (sz := 7) ([s26] : List Way) rfl rfl (fun _ => rfl)))) .nil))))) ?_
        refine At.inb ?_
        refine At.thenC ?_
        obtain ⟨hc28, H⟩ := of_must H
        refine W.region env [] [] rfl rfl rfl (.cons hc28 .nil) .nil (At.keep (ts := [1, 2, 3, 4, 5]) (ids := [1, 2, 3, 4, 801]) rfl rfl ?_)
        refine At.thenK (At.keep (ts := [1, 2, 3, 4, 5]) (ids := [1, 2, 3, 4, 801]) rfl rfl ?_)
        exact At.conv (.cons (.of_eq (by first | rfl | (simp; done) | (simp; omega))) (.cons (.of_eq (by first | rfl | (simp; done) | (simp; omega))) (.cons (.of_eq (by first | rfl | (simp; done) | (simp; omega))) (.cons (.of_eq (by first | rfl | (simp; done) | (simp; omega))) (.cons (.of_eq (by first | rfl | (simp; done) | (simp; omega))) .nil))))) (.cons (.of_eq (by first | rfl | (simp; done) | (simp; omega))) (.cons (.of_eq (by first | rfl | (simp; done) | (simp; omega))) (.cons (.of_eq (by first | rfl | (simp; done) | (simp; omega))) (.cons (.of_eq (by first | rfl | (simp; done) | (simp; omega))) (.cons (.of_eq (by first | rfl | (simp; done) | (simp; omega))) .nil))))) (hK4 ((s4.1 + 1), (s4.2 ++ ([s26] : List Way))) H)
      · refine W.cond rfl (fun hb29 => ?_) (fun hb29 => ?_)
        · have H := of_true H hb29
          obtain ⟨y30, hy31, H⟩ := of_bindO H
          obtain ⟨hc32, H⟩ := of_must H
          refine W.region env [] [⟨.int .i64 (y30), [], 0⟩] rfl rfl rfl (.cons (by decide) (.cons hc32 .nil)) (.free (c_gasolierref03_Mod ((p0.Ways.getD (s4.1).toNat default).x6) 40 hy31) .nil) (At.keep (ts := [1, 2, 3, 4, 5, 8]) (ids := [1, 2, 3, 4, 8, 801]) rfl rfl ?_)
          refine At.thenK (At.keep (ts := [1, 2, 3, 4, 5, 8]) (ids := [1, 2, 3, 4, 8, 801]) rfl rfl ?_)
          exact At.conv (.cons (.of_eq (by first | rfl | (simp; done) | (simp; omega))) (.cons (.of_eq (by first | rfl | (simp; done) | (simp; omega))) (.cons (.of_eq (by first | rfl | (simp; done) | (simp; omega))) (.cons (.of_eq (by first | rfl | (simp; done) | (simp; omega))) (.cons (.of_eq (by first | rfl | (simp; done) | (simp; omega))) (.cons (.of_eq (by first | rfl | (simp; done) | (simp; omega))) .nil)))))) (.cons (.of_eq (by first | rfl | (simp; done) | (simp; omega))) (.cons (.of_eq (by first | rfl | (simp; done) | (simp; omega))) (.cons (.of_eq (by first | rfl | (simp; done) | (simp; omega))) (.cons (.of_eq (by first | rfl | (simp; done) | (simp; omega))) (.cons (.of_eq (by first | rfl | (simp; done) | (simp; omega))) (.cons (.of_eq (by first | rfl | (simp; done) | (simp; omega))) .nil)))))) (hK26 (⟨s23.From, s23.To, s23.Takes, s23.Open, (1 + y30)⟩ : Way) H)
        · have H := of_false H hb29
          refine W.skip ?_
          refine At.thenK (At.keep (ts := [1, 2, 3, 4, 5, 8]) (ids := [1, 2, 3, 4, 8, 801]) rfl rfl ?_)
          exact At.conv (.cons (.of_eq (by first | rfl | (simp; done) | (simp; omega))) (.cons (.of_eq (by first | rfl | (simp; done) | (simp; omega))) (.cons (.of_eq (by first | rfl | (simp; done) | (simp; omega))) (.cons (.of_eq (by first | rfl | (simp; done) | (simp; omega))) (.cons (.of_eq (by first | rfl | (simp; done) | (simp; omega))) (.cons (.of_eq (by first | rfl | (simp; done) | (simp; omega))) .nil)))))) (.cons (.of_eq (by first | rfl | (simp; done) | (simp; omega))) (.cons (.of_eq (by first | rfl | (simp; done) | (simp; omega))) (.cons (.of_eq (by first | rfl | (simp; done) | (simp; omega))) (.cons (.of_eq (by first | rfl | (simp; done) | (simp; omega))) (.cons (.of_eq (by first | rfl | (simp; done) | (simp; omega))) (.cons (.of_eq (by first | rfl | (simp; done) | (simp; omega))) .nil)))))) (hK26 s23 H)
    · refine W.cond rfl (fun hb33 => ?_) (fun hb33 => ?_)
      · have H := of_true H hb33
        refine W.seq ?_
        obtain ⟨y34, hy35, H⟩ := of_bindO H
        refine W.region env [] [⟨.int .i64 (y34), [], 0⟩] rfl rfl rfl (.cons (by decide) .nil) (.free (c_gasolierref03_Mod ((p0.Ways.getD (s4.1).toNat default).x5) 200 hy35) .nil) (At.keep (ts := [1, 2, 3, 4, 5, 6, 8]) (ids := [1, 2, 3, 4, 6, 8, 801]) rfl rfl ?_)
        refine At.thenC ?_
        obtain ⟨y36, hy37, H⟩ := of_bindO H
        obtain ⟨hc38, H⟩ := of_must H
        refine W.region env [] [⟨.int .i64 (y36), [], 0⟩] rfl rfl rfl (.cons (by decide) (.cons hc38 .nil)) (.free (c_gasolierref03_Mod ((p0.Ways.getD (s4.1).toNat default).x6) 150 hy37) .nil) (At.keep (ts := [1, 2, 3, 4, 5, 6, 8]) (ids := [1, 2, 3, 4, 6, 8, 801]) rfl rfl ?_)
        refine At.thenK (At.keep (ts := [1, 2, 3, 4, 5, 6, 8]) (ids := [1, 2, 3, 4, 6, 8, 801]) rfl rfl ?_)
        exact At.conv (.cons (.of_eq (by first | rfl | (simp; done) | (simp; omega))) (.cons (.of_eq (by first | rfl | (simp; done) | (simp; omega))) (.cons (.of_eq (by first | rfl | (simp; done) | (simp; omega))) (.cons (.of_eq (by first | rfl | (simp; done) | (simp; omega))) (.cons (.of_eq (by first | rfl | (simp; done) | (simp; omega))) (.cons (.of_eq (by first | rfl | (simp; done) | (simp; omega))) (.cons (.of_eq (by first | rfl | (simp; done) | (simp; omega))) .nil))))))) (.cons (.of_eq (by first | rfl | (simp; done) | (simp; omega))) (.cons (.of_eq (by first | rfl | (simp; done) | (simp; omega))) (.cons (.of_eq (by first | rfl | (simp; done) | (simp; omega))) (.cons (.of_eq (by first | rfl | (simp; done) | (simp; omega))) (.cons (.of_eq (by first | rfl | (simp; done) | (simp; omega))) (.cons (.of_eq (by first | rfl | (simp; done) | (simp; omega))) (.cons (.of_eq (by first | rfl | (simp; done) | (simp; omega))) .nil))))))) (hK23 (⟨y7, (Int.tmod ((y7 + 1) + y11) (2 + y1)), (⟨(1 + y15), ((1 + y15) + y18)⟩ : Range), (⟨y34, (y34 + y36)⟩ : Range), 0⟩ : Way) H)
      · have H := of_false H hb33
        refine W.skip ?_
        refine At.thenK (At.keep (ts := [1, 2, 3, 4, 5, 6, 8]) (ids := [1, 2, 3, 4, 6, 8, 801]) rfl rfl ?_)
        exact At.conv (.cons (.of_eq (by first | rfl | (simp; done) | (simp; omega))) (.cons (.of_eq (by first | rfl | (simp; done) | (simp; omega))) (.cons (.of_eq (by first | rfl | (simp; done) | (simp; omega))) (.cons (.of_eq (by first | rfl | (simp; done) | (simp; omega))) (.cons (.of_eq (by first | rfl | (simp; done) | (simp; omega))) (.cons (.of_eq (by first | rfl | (simp; done) | (simp; omega))) (.cons (.of_eq (by first | rfl | (simp; done) | (simp; omega))) .nil))))))) (.cons (.of_eq (by first | rfl | (simp; done) | (simp; omega))) (.cons (.of_eq (by first | rfl | (simp; done) | (simp; omega))) (.cons (.of_eq (by first | rfl | (simp; done) | (simp; omega))) (.cons (.of_eq (by first | rfl | (simp; done) | (simp; omega))) (.cons (.of_eq (by first | rfl | (simp; done) | (simp; omega))) (.cons (.of_eq (by first | rfl | (simp; done) | (simp; omega))) (.cons (.of_eq (by first | rfl | (simp; done) | (simp; omega))) .nil))))))) (hK23 (⟨y7, (Int.tmod ((y7 + 1) + y11) (2 + y1)), (⟨(1 + y15), ((1 + y15) + y18)⟩ : Range), (⟨0, 1439⟩ : Range), 0⟩ : Way) H)
  · have H := of_false H hb5
    refine W.exit ?_
    refine At.xthen ?_
    refine At.xthen ?_
    refine At.xhere ?_
    refine At.thenC ?_
    refine W.seq ?_
    obtain ⟨y39, hy40, H⟩ := of_bindO H
    obtain ⟨y41, hy42, H⟩ := of_bindO H
    refine W.region env [] [⟨.int .i64 (y39), [], 0⟩, ⟨.int .i64 (y41), [], 0⟩] rfl rfl rfl (.cons (by decide) (.cons (by decide) .nil)) (.free (c_gasolierref03_Mod p0.Round.x0 (2 + y1) hy40) (.free (c_gasolierref03_Mod p0.Round.x1 150 hy42) .nil)) (At.keep (ts := [1, 2, 3, 4, 9]) (ids := [1, 2, 3, 4, 9, 801]) rfl rfl ?_)
    refine At.thenC ?_
    refine W.seq ?_
    refine W.region env [] [] rfl rfl rfl .nil .nil (At.keep (ts := [1, 2, 3, 4, 9, 10]) (ids := [1, 2, 3, 4, 9, 801]) rfl rfl ?_)
    refine At.thenC ?_
    refine W.seq ?_
    refine W.seq ?_
    refine W.region env [] [] rfl rfl rfl .nil .nil (At.keep (ts := [1, 2, 3, 4, 9, 10, 11]) (ids := [1, 2, 3, 4, 9, 801]) rfl rfl ?_)
    refine At.thenC ?_
    refine W.block ?_
    refine At.nilOwnCell 9 2 1052 87 4 (e := fun i => enc_Stop (([] : List Stop).getD i default)) rfl rfl rfl ?_
    refine At.keep (ts := [1, 2, 3, 4, 9, 10, 11]) (ids := [1, 2, 3, 4, 9, 801, 1052]) rfl rfl ?_
    refine W.loopGo H (fun (s43 : Int × Int × (List Stop)) => [(1, .lp 1 0), (2, .lp 2 0), (3, .lp 3 0), (4, .lp 4 0), (9, .lp 9 0), (10, .int .i64 (s43.1)), (11, .int .i64 (s43.2.1))]) (fun (s43 : Int × Int × (List Stop)) => [(1, .cells [.int .i64 (p0.Places), roL 7 enc_Arr7Int p0.Ways, .int .i64 (p0.Round.x0), .int .i64 (p0.Round.x1), roL 4 enc_Arr4Int p0.Stops]), (2, .cells [.int .i64 (0), .nilS]), (3, .cells [.int .i64 (0), .int .i64 (0), .nilS]), (4, .cells [.int .i64 ((2 + y1)), .buf 801 (s4.2).length]), (9, .cells [.int .i64 (y39), .int .i64 (y41), .buf 1052 (s43.2.2).length]), (801, bufL 53 7 enc_Way s4.2), (1052, bufL 87 4 enc_Stop s43.2.2)]) (.cons (.of_eq (by first | rfl | (simp; done) | (simp; omega))) (.cons (.of_eq (by first | rfl | (simp; done) | (simp; omega))) (.cons (.of_eq (by first | rfl | (simp; done) | (simp; omega))) (.cons (.of_eq (by first | rfl | (simp; done) | (simp; omega))) (.cons (.of_eq (by first | rfl | (simp; done) | (simp; omega))) (.cons (.of_eq (by first | rfl | (simp; done) | (simp; omega))) (.cons (.of_eq (by first | rfl | (simp; done) | (simp; omega))) .nil))))))) (.cons (.of_eq (by first | rfl | (simp; done) | (simp; omega))) (.cons (.of_eq (by first | rfl | (simp; done) | (simp; omega))) (.cons (.of_eq (by first | rfl | (simp; done) | (simp; omega))) (.cons (.of_eq (by first | rfl | (simp; done) | (simp; omega))) (.cons (.of_eq (by first | rfl | (simp; done) | (simp; omega))) (.cons (.of_eq (by first | rfl | (simp; done) | (simp; omega))) (.cons (.of_eq (by first | rfl | (simp; done) | (simp; omega))) .nil))))))) (fun k43 s43 H K0 hK43 => ?_)
    refine W.seq ?_
    refine W.seq ?_
    refine W.region env [] [] rfl rfl rfl (.cons (fun h => h) (.cons (fun h => h) .nil)) .nil (At.keep (ts := [1, 2, 3, 4, 9, 10, 11, 125]) (ids := [1, 2, 3, 4, 9, 801, 1052]) rfl rfl ?_)
    refine At.thenC ?_
    refine W.cond rfl (fun hb44 => ?_) (fun hb44 => ?_)
    · have H := of_true H hb44
      refine W.skip ?_
      refine At.thenC ?_
      refine W.seq ?_
      refine W.block ?_
      refine W.seq ?_
      obtain ⟨hc45, H⟩ := of_must H
      refine W.region env [] [] rfl rfl rfl (.cons hc45 .nil) .nil (At.keep (ts := [1, 2, 3, 4, 9, 10, 11, 12]) (ids := [1, 2, 3, 4, 9, 12, 801, 1052]) rfl rfl ?_)
      refine At.thenC ?_
      refine W.seq ?_
      obtain ⟨y46, hy47, H⟩ := of_bindO H
      obtain ⟨y48, hy49, H⟩ := of_bindO H
      refine W.region env [] [⟨.int .i64 (y46), [], 0⟩, ⟨.int .i64 (y48), [], 0⟩] rfl rfl rfl (.cons (by decide) (.cons (by decide) .nil)) (.free (c_gasolierref03_Mod ((p0.Stops.getD (s43.2.1).toNat default).x0) (2 + y1) hy47) (.free (c_gasolierref03_Mod ((p0.Stops.getD (s43.2.1).toNat default).x3) 9 hy49) .nil)) (At.keep (ts := [1, 2, 3, 4, 9, 10, 11, 12, 13]) (ids := [1, 2, 3, 4, 9, 12, 13, 801, 1052]) rfl rfl ?_)
      refine At.thenC ?_
      refine W.seq ?_
      obtain ⟨y50, hy51, H⟩ := of_bindO H
      obtain ⟨hc52, H⟩ := of_must H
      obtain ⟨hc53, H⟩ := of_must H
      refine W.region env [] [⟨.int .i64 (y50), [], 0⟩] rfl rfl rfl (.cons (by decide) (.cons hc52 (.cons hc53 .nil))) (.free (c_gasolierref03_Mod ((p0.Stops.getD (s43.2.1).toNat default).x1) 40 hy51) .nil) (At.keep (ts := [1, 2, 3, 4, 9, 11, 12, 13]) (ids := [1, 2, 3, 4, 9, 12, 13, 801, 1052]) rfl rfl ?_)
      refine At.thenC ?_
      refine W.seq ?_
      refine W.region env [] [] rfl rfl rfl .nil .nil (At.keep (ts := [1, 2, 3, 4, 9, 11, 12, 13]) (ids := [1, 2, 3, 4, 9, 12, 13, 801, 1052]) rfl rfl ?_)
      refine At.thenC ?_
      refine W.seq ?_
      obtain ⟨y54, hy55, H⟩ := of_bindO H
      obtain ⟨hc56, H⟩ := of_must H
      refine W.region env [] [⟨.int .i64 (y54), [], 0⟩] rfl rfl rfl (.cons (by decide) (.cons hc56 .nil)) (.free (c_gasolierref03_Mod ((p0.Stops.getD (s43.2.1).toNat default).x2) 60 hy55) .nil) (At.keep (ts := [1, 2, 3, 4, 9, 11, 13]) (ids := [1, 2, 3, 4, 9, 13, 801, 1052]) rfl rfl ?_)
      refine At.thenC ?_
      refine W.seq ?_
      refine W.region env [] [] rfl rfl rfl .nil .nil (At.keep (ts := [1, 2, 3, 4, 9, 10, 11, 13]) (ids := [1, 2, 3, 4, 9, 13, 801, 1052]) rfl rfl ?_)
      refine At.thenC ?_
      obtain ⟨hc57, H⟩ := of_must H
      refine W.region env [] [] rfl rfl rfl (.cons (⟨by first | rfl | (simp; done) | (simp; omega), by have := hc57; first | simpa using this | (unfold room at this ⊢; simp at this ⊢; omega)⟩) .nil) .nil (At.keep (ts := [1, 2, 3, 4, 9, 10, 11]) (ids := [1, 2, 3, 4, 9, 801, 1052]) rfl rfl ?_)
      refine At.convM (.cons (.refl _) (.cons (.refl _) (.cons (.refl _) (.cons (.refl _) (.cons (.refl _) (.cons (.refl _) (.cons (y := bufL 87 4 enc_Stop (s43.2.2 ++ ([(⟨y46, (⟨(max ((s43.1 + y50) - 10) 0), ((max ((s43.1 + y50) - 10) 0) + y54)⟩ : Range), y48⟩ : Stop)] : List Stop))) (BSim.seg (Seg.push (Seg.refl enc_Stop _) (Seg.lit (f := enc_Stop) (sz := 4) ([(⟨y46, (⟨(max ((s43.1 + y50) - 10) 0), ((max ((s43.1 + y50) - 10) 0) + y54)⟩ : Range), y48⟩ : Stop)] : List Stop) rfl rfl (fun _ => rfl)))) .nil))))))) ?_
      refine At.inb ?_
      refine At.thenC ?_
      obtain ⟨hc58, H⟩ := of_must H
      refine W.region env [] [] rfl rfl rfl (.cons hc58 .nil) .nil (At.keep (ts := [1, 2, 3, 4, 9, 10, 11]) (ids := [1, 2, 3, 4, 9, 801, 1052]) rfl rfl ?_)
      refine At.thenK (At.keep (ts := [1, 2, 3, 4, 9, 10, 11]) (ids := [1, 2, 3, 4, 9, 801, 1052]) rfl rfl ?_)
      exact At.conv (.cons (.of_eq (by first | rfl | (simp; done) | (simp; omega))) (.cons (.of_eq (by first | rfl | (simp; done) | (simp; omega))) (.cons (.of_eq (by first | rfl | (simp; done) | (simp; omega))) (.cons (.of_eq (by first | rfl | (simp; done) | (simp; omega))) (.cons (.of_eq (by first | rfl | (simp; done) | (simp; omega))) (.cons (.of_eq (by first | rfl | (simp; done) | (simp; omega))) (.cons (.of_eq (by first | rfl | (simp; done) | (simp; omega))) .nil))))))) (.cons (.of_eq (by first | rfl | (simp; done) | (simp; omega))) (.cons (.of_eq (by first | rfl | (simp; done) | (simp; omega))) (.cons (.of_eq (by first | rfl | (simp; done) | (simp; omega))) (.cons (.of_eq (by first | rfl | (simp; done) | (simp; omega))) (.cons (.of_eq (by first | rfl | (simp; done) | (simp; omega))) (.cons (.of_eq (by first | rfl | (simp; done) | (simp; omega))) (.cons (.of_eq (by first | rfl | (simp; done) | (simp; omega))) .nil))))))) (hK43 ((max ((s43.1 + y50) - 10) 0), (s43.2.1 + 1), (s43.2.2 ++ ([(⟨y46, (⟨(max ((s43.1 + y50) - 10) 0), ((max ((s43.1 + y50) - 10) 0) + y54)⟩ : Range), y48⟩ : Stop)] : List Stop))) H)
    · have H := of_false H hb44
      refine W.exit ?_
      refine At.xthen ?_
      refine At.xthen ?_
      refine At.xhere ?_
      refine At.thenC ?_
      refine W.seq ?_
      refine W.region env [] [] rfl rfl rfl .nil .nil (At.keep (ts := [2, 3]) (ids := [2, 3, 801, 1052]) rfl rfl ?_)
      refine At.thenC ?_
      refine W.ret ?_
      cases H
      exact At.ret env.ty rfl rfl (fun q hq => by cases hq; exact ⟨by first | rfl | (simp; done) | (simp; omega), (by first | rfl | (simp; done) | (simp; omega))⟩) (.refl _) hval

theorem c_round_Without (p0 : Chart) (p1 : Int) {r : (Chart × Int)} (H : round_Without p0 p1 = some r) : Ctr Try.prog 53 [.agg [.int .i64 (p0.Places), roL 7 enc_Way p0.Ways], .int .i64 (p1)] (.tup [.agg [.int .i64 (r.1.Places), roL 7 enc_Way r.1.Ways], .int .i64 (r.2)]) := by
  unfold round_Without at H
  refine Ctr.of_body (N := 17) Try.func53 (by kernel_rfl) (c := _) rfl Try.ntmps53 rfl (fun w0 h0 hval => ?_)
  refine W.seq ?_
  refine W.region env [] [] rfl rfl rfl .nil .nil (At.keep (ts := [1, 2, 4]) (ids := [2, 4]) rfl rfl ?_)
  refine At.thenC ?_
  refine W.seq ?_
  refine W.seq ?_
  obtain ⟨y1, hy2, H⟩ := of_bindO H
  refine W.region env [] [⟨.int .i64 (y1), [], 0⟩] rfl rfl rfl .nil (.free (c_round_wayOf p0 p1 hy2) .nil) (At.keep (ts := [1, 2, 4, 6]) (ids := [2, 4]) rfl rfl ?_)
  refine At.thenC ?_
  refine W.seq ?_
  refine W.region env [] [] rfl rfl rfl .nil .nil (At.keep (ts := [1, 2, 4, 6, 11]) (ids := [2, 4]) rfl rfl ?_)
  refine At.thenC ?_
  refine W.cond rfl (fun hb3 => ?_) (fun hb3 => ?_)
  · have H := of_true H hb3
    refine W.seq ?_
    refine W.region env [] [] rfl rfl rfl .nil .nil (At.keep (ts := [4, 5]) (ids := [4]) rfl rfl ?_)
    refine At.thenC ?_
    refine W.ret ?_
    refine At.rthen ?_
    cases H
    exact At.ret env.ty rfl rfl (fun q hq => by cases hq) (Sim.tupL (.cons (Sim.aggL (.cons (.refl _) (.cons (Sim.nil _ _) .nil))) (.cons (.refl _) .nil))) hval
  · have H := of_false H hb3
    refine W.skip ?_
    refine At.thenC ?_
    refine W.seq ?_
    obtain ⟨y4, hy5, H⟩ := of_bindO H
    refine W.region env [] [⟨.agg [.int .i64 (y4.Places), roL 7 enc_Way y4.Ways], [], 0⟩] rfl rfl rfl .nil (.free (c_round_without p0 p1 hy5) .nil) (At.keep (ts := [4, 5]) (ids := [4]) rfl rfl ?_)
    refine At.thenC ?_
    refine W.ret ?_
    cases H
    exact At.ret env.ty rfl rfl (fun q hq => by cases hq) (.refl _) hval

theorem c_round_With (p0 : Chart) (p1 : Way) {r : (Chart × Int)} (H : round_With p0 p1 = some r) : Ctr Try.prog 54 [.agg [.int .i64 (p0.Places), roL 7 enc_Way p0.Ways], .agg [.int .i64 (p1.From), .int .i64 (p1.To), .int .i64 (p1.Takes.Lo), .int .i64 (p1.Takes.Hi), .int .i64 (p1.Open.Lo), .int .i64 (p1.Open.Hi), .int .i64 (p1.Every)]] (.tup [.agg [.int .i64 (r.1.Places), roL 7 enc_Way r.1.Ways], .int .i64 (r.2)]) := by
  unfold round_With at H
  refine Ctr.of_body (N := 35) Try.func54 (by kernel_rfl) (c := _) rfl Try.ntmps54 rfl (fun w0 h0 hval => ?_)
  refine W.seq ?_
  refine W.region env [] [] rfl rfl rfl .nil .nil (At.keep (ts := [2, 3, 4]) (ids := [2, 3, 4]) rfl rfl ?_)
  refine At.thenC ?_
  refine W.seq ?_
  refine W.seq ?_
  obtain ⟨y1, hy2, H⟩ := of_bindO H
  refine W.region env [] [⟨.int .i64 (y1), [], 0⟩] rfl rfl rfl .nil (.free (c_round_Check p0 hy2) .nil) (At.keep (ts := [2, 3, 4, 6]) (ids := [2, 3, 4]) rfl rfl ?_)
  refine At.thenC ?_
  refine W.block ?_
  refine W.seq ?_
  refine W.region env [] [] rfl rfl rfl .nil .nil (At.keep (ts := [2, 3, 4, 6, 9]) (ids := [2, 3, 4]) rfl rfl ?_)
  refine At.thenC ?_
  refine W.cond rfl (fun hb3 => ?_) (fun hb3 => ?_)
  · have H := of_true H hb3
    refine W.seq ?_
    refine W.region env [] [] rfl rfl rfl .nil .nil (At.keep (ts := [4, 5]) (ids := [4]) rfl rfl ?_)
    refine At.thenC ?_
    refine W.ret ?_
    refine At.rinb ?_
    refine At.rthen ?_
    cases H
    exact At.ret env.ty rfl rfl (fun q hq => by cases hq) (Sim.tupL (.cons (Sim.aggL (.cons (.refl _) (.cons (Sim.nil _ _) .nil))) (.cons (.refl _) .nil))) hval
  · have H := of_false H hb3
    refine W.seq ?_
    refine W.region env [] [⟨.bool ((round_joins p0 p1)), [], 0⟩] rfl rfl rfl .nil (.free (c_round_joins p0 p1) .nil) (At.keep (ts := [2, 3, 4, 14]) (ids := [2, 3, 4]) rfl rfl ?_)
    refine At.thenC ?_
    refine W.cond rfl (fun hb4 => ?_) (fun hb4 => ?_)
    · have H := of_true H hb4
      refine W.seq ?_
      refine W.region env [] [] rfl rfl rfl .nil .nil (At.keep (ts := [4, 5]) (ids := [4]) rfl rfl ?_)
      refine At.thenC ?_
      refine W.ret ?_
      refine At.rinb ?_
      refine At.rthen ?_
      cases H
      exact At.ret env.ty rfl rfl (fun q hq => by cases hq) (Sim.tupL (.cons (Sim.aggL (.cons (.refl _) (.cons (Sim.nil _ _) .nil))) (.cons (.refl _) .nil))) hval
    · have H := of_false H hb4
      refine W.seq ?_
      refine W.region env [] [] rfl rfl rfl .nil .nil (At.keep (ts := [2, 3, 4, 20]) (ids := [2, 3, 4]) rfl rfl ?_)
      refine At.thenC ?_
      refine W.cond rfl (fun hb5 => ?_) (fun hb5 => ?_)
      · have H := of_true H hb5
        refine W.seq ?_
        refine W.region env [] [] rfl rfl rfl .nil .nil (At.keep (ts := [4, 5]) (ids := [4]) rfl rfl ?_)
        refine At.thenC ?_
        refine W.ret ?_
        refine At.rinb ?_
        refine At.rthen ?_
        cases H
        exact At.ret env.ty rfl rfl (fun q hq => by cases hq) (Sim.tupL (.cons (Sim.aggL (.cons (.refl _) (.cons (Sim.nil _ _) .nil))) (.cons (.refl _) .nil))) hval
      · have H := of_false H hb5
        refine W.skip ?_
        refine At.inb ?_
        refine At.thenC ?_
        refine W.seq ?_
        obtain ⟨y6, hy7, H⟩ := of_bindO H
        obtain ⟨hc8, H⟩ := of_must H
        refine W.region env [] [⟨.buf 900 y6.length, [(900, bufL 53 7 enc_Way y6)], 31000⟩] rfl rfl (by kernel_rfl) (.cons (⟨by first | rfl | (simp; done) | (simp; omega), by have := hc8; first | simpa using this | (unfold room at this ⊢; simp at this ⊢; omega)⟩) .nil) (.free ((Ctr.ofO (co_slices_Clone_Way p0.Ways hy7))) .nil) (At.keep (ts := [4, 5]) (ids := [4, 31900]) rfl rfl ?_)
        refine At.convM (.cons (.refl _) (.cons (y := bufL 53 7 enc_Way (y6 ++ ([p1] : List Way))) (BSim.seg (Seg.push (Seg.refl enc_Way _) (Seg.lit (f := enc_Way) (sz := 7) ([p1] : List Way) rfl rfl (fun _ => rfl)))) .nil)) ?_
        refine At.thenC ?_
        refine W.ret ?_
        cases H
        exact At.ret env.ty rfl rfl (fun q hq => by cases hq; exact (by first | rfl | (simp; done) | (simp; omega))) (.refl _) hval

theorem c_round_InTime (fuel : Nat) (p0 : Chart) (p1 : Round) {r : (Int × Int)} (H : round_InTime fuel p0 p1 = some r) : Ctr Try.prog 30 [.agg [.int .i64 (p0.Places), roL 7 enc_Way p0.Ways], .agg [.int .i64 (p1.Place), .int .i64 (p1.At), roL 4 enc_Stop p1.Stops]] (.tup [.int .i64 (r.1), .int .i64 (r.2)]) := by
  unfold round_InTime at H
  refine Ctr.of_body (N := 16) Try.func30 (by kernel_rfl) (c := _) rfl Try.ntmps30 rfl (fun w0 h0 hval => ?_)
  refine W.seq ?_
  refine W.region env [] [] rfl rfl rfl .nil .nil (At.keep (ts := [2, 3]) (ids := [2, 3]) rfl rfl ?_)
  refine At.thenC ?_
  refine W.seq ?_
  refine W.seq ?_
  obtain ⟨y1, hy2, H⟩ := of_bindO H
  refine W.region env [] [⟨.int .i64 (y1), [], 0⟩] rfl rfl rfl .nil (.free (c_round_CheckRound p0 p1 hy2) .nil) (At.keep (ts := [2, 3, 6]) (ids := [2, 3]) rfl rfl ?_)
  refine At.thenC ?_
  refine W.seq ?_
  refine W.region env [] [] rfl rfl rfl .nil .nil (At.keep (ts := [2, 3, 6, 11]) (ids := [2, 3]) rfl rfl ?_)
  refine At.thenC ?_
  refine W.cond rfl (fun hb3 => ?_) (fun hb3 => ?_)
  · have H := of_true H hb3
    refine W.seq ?_
    refine W.region env [] [] rfl rfl rfl .nil .nil (At.keep (ts := [4, 5]) (ids := []) rfl rfl ?_)
    refine At.thenC ?_
    refine W.ret ?_
    refine At.rthen ?_
    cases H
    exact At.ret env.ty rfl rfl (fun q hq => by cases hq) (.refl _) hval
  · have H := of_false H hb3
    refine W.skip ?_
    refine At.thenC ?_
    refine W.seq ?_
    obtain ⟨y4, hy5, H⟩ := of_bindO H
    refine W.region env [] [⟨.int .i64 (y4), [], 0⟩] rfl rfl rfl .nil (.free (c_round_inTime fuel p0 p1 hy5) .nil) (At.keep (ts := [4, 5]) (ids := []) rfl rfl ?_)
    refine At.thenC ?_
    refine W.ret ?_
    cases H
    exact At.ret env.ty rfl rfl (fun q hq => by cases hq) (.refl _) hval

theorem c_gasolierlaw03_RoundWays (fuel : Nat) (p0 : gasolierref03_Raw) (p1 : Int) {r : Bool} (H : gasolierlaw03_RoundWays fuel p0 p1 = some r) : Ctr Try.prog 12 [.agg [.int .i64 (p0.Places), roL 7 enc_Arr7Int p0.Ways, .int .i64 (p0.Round.x0), .int .i64 (p0.Round.x1), roL 4 enc_Arr4Int p0.Stops], .int .i64 (p1)] (.bool (r)) := by
  unfold gasolierlaw03_RoundWays at H
  refine Ctr.of_body (N := 211) Try.func12 (by kernel_rfl) (c := _) rfl Try.ntmps12 rfl (fun w0 h0 hval => ?_)
  refine W.seq ?_
  refine W.region env [] [] rfl rfl rfl .nil .nil (At.keep (ts := [1, 2]) (ids := [2]) rfl rfl ?_)
  refine At.thenC ?_
  refine W.seq ?_
  obtain ⟨y1, hy2, H⟩ := of_bindO H
  refine W.region env [] [⟨.bool (y1), [], 0⟩] rfl rfl rfl .nil (.free (c_gasolierlaw03_sane fuel hy2) .nil) (At.keep (ts := [1, 2, 5]) (ids := [2]) rfl rfl ?_)
  refine At.thenC ?_
  refine W.seq ?_
  obtain ⟨y3, hy4, H⟩ := of_bindO H
  refine W.region env [] [⟨.tup [.agg [.int .i64 (y3.1.Places), roL 7 enc_Way y3.1.Ways], .agg [.int .i64 (y3.2.Place), .int .i64 (y3.2.At), roL 4 enc_Stop y3.2.Stops]], [], 0⟩] rfl rfl rfl .nil (.free (c_gasolierref03_Made fuel p0 hy4) .nil) (At.keep (ts := [1, 5, 6, 7]) (ids := [6, 7]) rfl rfl ?_)
  refine At.thenC ?_
  refine W.seq ?_
  refine W.seq ?_
  refine W.region env [] [] rfl rfl rfl .nil .nil (At.keep (ts := [1, 5, 6, 7, 36]) (ids := [6, 7]) rfl rfl ?_)
  refine At.thenC ?_
  refine W.cond rfl (fun hb5 => ?_) (fun hb5 => ?_)
  · have H := of_true H hb5
    refine W.seq ?_
    refine W.region env [] [] rfl rfl rfl .nil .nil (At.keep (ts := [4]) (ids := []) rfl rfl ?_)
    refine At.thenC ?_
    refine W.ret ?_
    refine At.rthen ?_
    cases H
    exact At.ret env.ty rfl rfl (fun q hq => by cases hq) (.refl _) hval
  · have H := of_false H hb5
    refine W.skip ?_
    refine At.thenC ?_
    refine W.seq ?_
    obtain ⟨y6, hy7, H⟩ := of_bindO H
    refine W.region env [] [⟨.int .i64 (y6), [], 0⟩] rfl rfl rfl .nil (.free (c_gasolierref03_Mod p1 ((y3.1.Ways.length : Nat) : Int) hy7) .nil) (At.keep (ts := [5, 6, 7, 8]) (ids := [6, 7]) rfl rfl ?_)
    refine At.thenC ?_
    refine W.seq ?_
    obtain ⟨y8, hy9, H⟩ := of_bindO H
    refine W.region env [] [⟨.tup [.agg [.int .i64 (y8.1.Places), roL 7 enc_Way y8.1.Ways], .int .i64 (y8.2)], [], 0⟩] rfl rfl rfl .nil (.free (c_round_Without y3.1 y6 hy9) .nil) (At.keep (ts := [5, 6, 7, 8, 9, 10]) (ids := [6, 7, 9]) rfl rfl ?_)
    refine At.thenC ?_
    refine W.seq ?_
    obtain ⟨hc10, H⟩ := of_must H
    obtain ⟨y11, hy12, H⟩ := of_bindO H
    refine W.region env [] [⟨.tup [.agg [.int .i64 (y11.1.Places), roL 7 enc_Way y11.1.Ways], .int .i64 (y11.2)], [], 0⟩] rfl rfl rfl (.cons hc10 .nil) (.free (c_round_With y8.1 (y3.1.Ways.getD (y6).toNat default) hy12) .nil) (At.keep (ts := [5, 6, 7, 8, 9, 10, 11, 12]) (ids := [6, 7, 9, 11]) rfl rfl ?_)
    refine At.thenC ?_
    refine W.seq ?_
    obtain ⟨y13, hy14, H⟩ := of_bindO H
    refine W.region env [] [⟨.tup [roL 1 enc_Int y13.1, .int .i64 (y13.2)], [], 0⟩] rfl rfl rfl .nil (.free (c_round_Sure fuel y3.1 y3.2.Place y3.2.At hy14) .nil) (At.keep (ts := [5, 6, 7, 8, 9, 10, 11, 12, 13, 14]) (ids := [6, 7, 9, 11]) rfl rfl ?_)
    refine At.thenC ?_
    refine W.seq ?_
    obtain ⟨y15, hy16, H⟩ := of_bindO H
    refine W.region env [] [⟨.tup [roL 1 enc_Int y15.1, .int .i64 (y15.2)], [], 0⟩] rfl rfl rfl .nil (.free (c_round_Sure fuel y8.1 y3.2.Place y3.2.At hy16) .nil) (At.keep (ts := [5, 6, 7, 8, 9, 10, 11, 12, 13, 14, 15, 16]) (ids := [6, 7, 9, 11]) rfl rfl ?_)
    refine At.thenC ?_
    refine W.seq ?_
    obtain ⟨y17, hy18, H⟩ := of_bindO H
    refine W.region env [] [⟨.tup [roL 1 enc_Int y17.1, .int .i64 (y17.2)], [], 0⟩] rfl rfl rfl .nil (.free (c_round_Sure fuel y11.1 y3.2.Place y3.2.At hy18) .nil) (At.keep (ts := [5, 6, 7, 8, 9, 10, 12, 13, 14, 15, 16, 17, 18]) (ids := [6, 7, 9]) rfl rfl ?_)
    refine At.thenC ?_
    refine W.seq ?_
    obtain ⟨y19, hy20, H⟩ := of_bindO H
    refine W.region env [] [⟨.tup [.int .i64 (y19.1), .int .i64 (y19.2)], [], 0⟩] rfl rfl rfl .nil (.free (c_round_InTime fuel y3.1 y3.2 hy20) .nil) (At.keep (ts := [5, 6, 7, 8, 9, 10, 12, 13, 14, 15, 16, 17, 18, 19, 20]) (ids := [6, 7, 9]) rfl rfl ?_)
    refine At.thenC ?_
    refine W.seq ?_
    obtain ⟨y21, hy22, H⟩ := of_bindO H
    refine W.region env [] [⟨.tup [.int .i64 (y21.1), .int .i64 (y21.2)], [], 0⟩] rfl rfl rfl .nil (.free (c_round_InTime fuel y8.1 y3.2 hy22) .nil) (At.keep (ts := [5, 6, 7, 8, 10, 12, 13, 14, 15, 16, 17, 18, 19, 20, 21, 22]) (ids := [6, 7]) rfl rfl ?_)
    refine At.thenC ?_
    refine W.seq ?_
    obtain ⟨y23, hy24, H⟩ := of_bindO H
    refine W.region env [] [⟨.tup [roL 1 enc_Int y23.1, .int .i64 (y23.2)], [], 0⟩] rfl rfl rfl .nil (.free (Ctr.sim (.cons (.refl _) (.cons (.refl _) (.cons (Sim.lit (f := enc_Round) ([y3.2] : List Round) rfl rfl (fun _ => rfl)) .nil))) (c_round_Moved fuel y3.1 y6 ([y3.2] : List Round) hy24)) .nil) (At.keep (ts := [5, 6, 10, 12, 13, 14, 15, 16, 17, 18, 19, 20, 21, 22, 23, 24]) (ids := [6]) rfl rfl ?_)
    refine At.thenC ?_
    refine W.seq ?_
    obtain ⟨y25, hy26, H⟩ := of_bindO H
    refine W.region env [] [⟨.bool (y25), [], 0⟩] rfl rfl rfl .nil (.free (c_gasolierref03_Same fuel y13.1 y17.1 hy26) .nil) (At.keep (ts := [5, 6, 10, 12, 13, 14, 15, 16, 18, 19, 20, 21, 22, 23, 24, 25]) (ids := [6]) rfl rfl ?_)
    refine At.thenC ?_
    refine W.seq ?_
    refine W.seq ?_
    refine W.region env [] [] rfl rfl rfl (.cons (fun h => h) (.cons (fun h => by rw [h]; rfl) (.cons (fun h => h) (.cons (fun h => by rw [h]; rfl) (.cons (fun h => h) (.cons (fun h => by rw [h]; rfl) (.cons (fun h => h) (.cons (fun h => by rw [h]; rfl) (.cons (fun h => h) (.cons (fun h => by rw [h]; rfl) (.cons (fun h => h) (.cons (fun h => by rw [h]; rfl) (.cons (fun h => h) (.cons (fun h => by rw [h]; rfl) (.cons (fun h => h) (.cons (fun h => by rw [h]; rfl) (.cons (fun h => h) (.cons (fun h => by rw [h]; rfl) (.cons (fun h => h) (.cons (fun h => h) (.cons (fun h => h) (.cons (fun h => h) (.cons (fun h => by rw [h]; rfl) (.cons (fun h => h) (.cons (fun h => h) (.cons (fun h => h) (.cons (fun h => h) (.cons (fun h => by rw [h]; rfl) .nil)))))))))))))))))))))))))))) .nil (At.keep (ts := [6, 13, 15, 19, 21, 23, 160]) (ids := [6]) rfl rfl ?_)
    refine At.thenC ?_
    refine W.cond rfl (fun hb27 => ?_) (fun hb27 => ?_)
    · have H := of_true H hb27
      refine W.seq ?_
      refine W.region env [] [] rfl rfl rfl .nil .nil (At.keep (ts := [4]) (ids := []) rfl rfl ?_)
      refine At.thenC ?_
      refine W.ret ?_
      refine At.rthen ?_
      cases H
      exact At.ret env.ty rfl rfl (fun q hq => by cases hq) (.refl _) hval
    · have H := of_false H hb27
      refine W.skip ?_
      refine At.thenC ?_
      refine W.seq ?_
      refine W.seq ?_
      refine W.region env [] [] rfl rfl rfl .nil .nil (At.keep (ts := [6, 13, 15, 19, 21, 23, 26]) (ids := [6]) rfl rfl ?_)
      refine At.thenC ?_
      refine W.block ?_
      refine At.keep (ts := [6, 13, 15, 19, 21, 23, 26]) (ids := [6]) rfl rfl ?_
      refine W.loopGo H (fun (s28 : Int) => [(6, .lp 6 0), (13, roL 1 enc_Int y13.1), (15, roL 1 enc_Int y15.1), (19, .int .i64 (y19.1)), (21, .int .i64 (y21.1)), (23, roL 1 enc_Int y23.1), (26, .int .i64 (s28))]) (fun (s28 : Int) => [(6, .cells [.int .i64 (y3.1.Places), roL 7 enc_Way y3.1.Ways])]) (.cons (.of_eq (by first | rfl | (simp; done) | (simp; omega))) (.cons (.of_eq (by first | rfl | (simp; done) | (simp; omega))) (.cons (.of_eq (by first | rfl | (simp; done) | (simp; omega))) (.cons (.of_eq (by first | rfl | (simp; done) | (simp; omega))) (.cons (.of_eq (by first | rfl | (simp; done) | (simp; omega))) (.cons (.of_eq (by first | rfl | (simp; done) | (simp; omega))) (.cons (.of_eq (by first | rfl | (simp; done) | (simp; omega))) .nil))))))) (.cons (.of_eq (by first | rfl | (simp; done) | (simp; omega))) .nil) (fun k28 s28 H K0 hK28 => ?_)
      refine W.seq ?_
      refine W.seq ?_
      refine W.region env [] [] rfl rfl rfl .nil .nil (At.keep (ts := [6, 13, 15, 19, 21, 23, 26, 164]) (ids := [6]) rfl rfl ?_)
      refine At.thenC ?_
      refine W.cond rfl (fun hb29 => ?_) (fun hb29 => ?_)
      · have H := of_true H hb29
        refine W.skip ?_
        refine At.thenC ?_
        refine W.seq ?_
        refine W.block ?_
        refine W.seq ?_
        obtain ⟨hc30, H⟩ := of_must H
        obtain ⟨hc31, H⟩ := of_must H
        obtain ⟨hc32, H⟩ := of_must H
        obtain ⟨hc33, H⟩ := of_must H
        refine W.region env [] [] rfl rfl rfl (.cons hc30 (.cons hc31 (.cons (fun h => h) (.cons (fun h => h) (.cons (fun h => h) (.cons (fun h => h) (.cons (fun h => h) (.cons hc32 (.cons (fun h => h) (.cons (fun h => h) (.cons (fun h => h) (.cons hc33 (.cons (fun h => h) (.cons (fun h => h) (.cons (fun h => h) (.cons (fun h => h) (.cons (fun h => h) (.cons (fun h => h) (.cons (fun hW h => by revert hW h; first | (simp +contextual; done) | grind) (.cons (fun h => h) .nil)))))))))))))))))))) .nil (At.keep (ts := [6, 13, 15, 19, 21, 23, 26, 189]) (ids := [6]) rfl rfl ?_)
        refine At.thenC ?_
        refine W.cond rfl (fun hb34 => ?_) (fun hb34 => ?_)
        · have H := of_true H hb34
          refine W.seq ?_
          refine W.region env [] [] rfl rfl rfl .nil .nil (At.keep (ts := [4]) (ids := []) rfl rfl ?_)
          refine At.thenC ?_
          refine W.ret ?_
          refine At.rinb ?_
          refine At.rthen ?_
          refine At.rthen ?_
          refine At.rinb ?_
          refine At.rthen ?_
          cases H
          exact At.ret env.ty rfl rfl (fun q hq => by cases hq) (.refl _) hval
        · have H := of_false H hb34
          refine W.skip ?_
          refine At.inb ?_
          refine At.thenC ?_
          obtain ⟨hc35, H⟩ := of_must H
          refine W.region env [] [] rfl rfl rfl (.cons hc35 .nil) .nil (At.keep (ts := [6, 13, 15, 19, 21, 23, 26]) (ids := [6]) rfl rfl ?_)
          refine At.thenK (At.keep (ts := [6, 13, 15, 19, 21, 23, 26]) (ids := [6]) rfl rfl ?_)
          exact At.conv (.cons (.of_eq (by first | rfl | (simp; done) | (simp; omega))) (.cons (.of_eq (by first | rfl | (simp; done) | (simp; omega))) (.cons (.of_eq (by first | rfl | (simp; done) | (simp; omega))) (.cons (.of_eq (by first | rfl | (simp; done) | (simp; omega))) (.cons (.of_eq (by first | rfl | (simp; done) | (simp; omega))) (.cons (.of_eq (by first | rfl | (simp; done) | (simp; omega))) (.cons (.of_eq (by first | rfl | (simp; done) | (simp; omega))) .nil))))))) (.cons (.of_eq (by first | rfl | (simp; done) | (simp; omega))) .nil) (hK28 (s28 + 1) H)
      · have H := of_false H hb29
        refine W.exit ?_
        refine At.xthen ?_
        refine At.xthen ?_
        refine At.xhere ?_
        refine At.thenC ?_
        refine W.seq ?_
        refine W.seq ?_
        refine W.region env [] [] rfl rfl rfl (.cons (fun h => h) (.cons (fun h => h) (.cons (fun h => h) (.cons (fun h => h) (.cons (fun h => h) (.cons (fun h => h) (.cons (fun hW h => by revert hW h; first | (simp +contextual; done) | grind) (.cons (fun h => by rw [h]; rfl) .nil)))))))) .nil (At.keep (ts := [19, 21, 23, 203]) (ids := []) rfl rfl ?_)
        refine At.thenC ?_
        refine W.cond rfl (fun hb36 => ?_) (fun hb36 => ?_)
        · have H := of_true H hb36
          refine W.seq ?_
          refine W.region env [] [] rfl rfl rfl .nil .nil (At.keep (ts := [4]) (ids := []) rfl rfl ?_)
          refine At.thenC ?_
          refine W.ret ?_
          refine At.rthen ?_
          cases H
          exact At.ret env.ty rfl rfl (fun q hq => by cases hq) (.refl _) hval
        · have H := of_false H hb36
          refine W.skip ?_
          refine At.thenC ?_
          refine W.seq ?_
          refine W.region env [] [] rfl rfl rfl .nil .nil (At.keep (ts := [4]) (ids := []) rfl rfl ?_)
          refine At.thenC ?_
          refine W.ret ?_
          cases H
          exact At.ret env.ty rfl rfl (fun q hq => by cases hq) (.refl _) hval

end Go.Sp
